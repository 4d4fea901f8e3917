/- What the evaluator makes of one operation is what the model does: part 3, the theorem for plain operations. What the evaluator makes of one operation is what the model does: part 4. What the evaluator makes of one operation is what the model does: part 5, and all of them together. What the evaluator makes of one operation is what the model does: all of them. What the evaluator makes of one operation is what the model does: slice expressions, maps. The evaluator's operations are the model's: the theorem. -/
import Derived.Test.YtpfpgjkbnjnjnaaWVmL
noncomputable section
namespace Go.Vm
open Go

section
variable {P : Program} {c : Ctx} {g : Ghost} {loc : Loc} {w0 : Base} {w : World} {hp : Hp} {nx : Nat}

def OpPost (w0 : Base) (hp : Hp) (nx : Nat) (g : Ghost) (loc : Loc) (ef : Ef) (v : Value) (w' : World) : Prop :=
  ∃ g' loc', g.le g' ∧ loc.le loc' ∧ (∀ o, o < nx ∨ ef.nx ≤ o → loc' o = loc o) ∧ HeapRel w0 (ef.upd ++ hp) g' loc' w' ∧ HRel g' loc' ef.hv v

theorem OpPost.pure (H : HeapRel w0 hp g loc w) {hv : HV} {pre : Option Prop} {v : Value} (h : HRel g loc hv v) : OpPost w0 hp nx g loc ⟨hv, [], nx, pre⟩ v w :=
  ⟨g, loc, Ghost.le_refl g, Loc.le_refl loc, fun _ _ => rfl, H, h⟩

theorem sizes_ref : ∀ n : Nat, Sh.sizes (List.replicate n .ref) = n
  | 0 => rfl
  | n + 1 => by simp only [List.replicate_succ, Sh.sizes, Sh.size, sizes_ref n]; omega

theorem s_load0 (hC : CtxOK P c) {ρ : Operand → HV} {ρv : Operand → Value} (hρ : ∀ x, HRel g loc (ρ x) (ρv x)) (H : HeapRel w0 hp g loc w) {t : Nat} {x : Operand} {ty : Nat} {ef : Ef}
    (h : vop0 c nx ρ hp ty (.load t x) = some ef) : ∃ v, (Instr.loadAt t (ρv x)).run P w = .ok v w ∧ ef.upd = [] ∧ ef.nx = nx ∧ HRel g loc ef.hv v := by
  simp only [vop0] at h
  have hx := hρ x
  split at h
  · rename_i o r p s hrx
    rw [hrx] at hx
    obtain ⟨b, cap, len, off, h1, h2, h3, h4⟩ := hx.ptr
    rw [h4]
    split at h
    · rename_i s' z hty
      have hpl := tyOf_plain hC hty
      split at h
      · rename_i hbeq
        have := Sh.beq_eq hbeq; subst this
        split at h
        · rename_i sb vb ho
          obtain ⟨b', cap', len', T, vs, k1, k2, k3, k4, k5⟩ := H.obj o _ ho
          rw [h1] at k1
          simp only [Option.some.injEq, Place.at.injEq] at k1
          obtain ⟨rfl, rfl, rfl, rfl⟩ := k1
          split at h
          · cases h
          · rename_i hne
            simp only [Option.some.injEq] at h; subst h
            obtain ⟨a1, a2, a3⟩ := HC.getP k5 k4.1 h2 h3 hne
            have hrun := run_loadVar_chunk (P := P) hpl Sh.size_one k2 (off := off) (by omega)
            exact ⟨_, by simp only [Instr.loadAt, Instr.sureAddr, Sem.run_bind, Sem.run_pure, Result.andThen_ok]; exact hrun, rfl, rfl, HRel.of_hc a2 a1⟩
        · rename_i s0 xs ho
          rcases H.obj o _ ho with ⟨k1, _⟩ | ⟨b', cap', T, cs, k1, k2, k3, k4, k5⟩
          · rw [h1] at k1; cases k1
          · rw [h1] at k1
            simp only [Option.some.injEq, Place.at.injEq] at k1
            obtain ⟨rfl, rfl, rfl, rfl⟩ := k1
            have hle : xs.length * s0.size ≤ cs.size := Nat.le_trans (Nat.mul_le_mul_right _ (by omega)) k3
            have hrel : Rel g (.arr xs.length s0) (.L xs) (chunk cs.toList 0 (xs.length * s0.size)) := by
              simp only [Rel]
              refine ⟨chunk_length _ _ _ (by simpa using hle), fun j hj => ?_⟩
              have hj2 : j * s0.size + s0.size ≤ xs.length * s0.size := by
                calc j * s0.size + s0.size = (j + 1) * s0.size := by rw [Nat.add_mul, Nat.one_mul]
                  _ ≤ _ := Nat.mul_le_mul_right _ hj
              rw [chunk_chunk _ _ _ _ _ hj2, Nat.zero_add]
              simpa [D.nth] using k5 j hj
            split at h
            · cases h
            · rename_i hne
              simp only [Option.some.injEq] at h; subst h
              obtain ⟨a1, a2, a3⟩ := HC.getP (g := g) (loc := loc) (h := .dat (.arr xs.length s0) (.L xs)) (by simp only [HC]; exact hrel) (by simp [fits, Sh.beq_refl]) h2 h3 hne
              simp only [Sh.size] at a3
              rw [chunk_chunk _ _ _ _ _ a3, Nat.zero_add] at a1
              have hrun := run_loadVar_chunk (P := P) hpl Sh.size_one k2 (off := off) (by omega)
              exact ⟨_, by simp only [Instr.loadAt, Instr.sureAddr, Sem.run_bind, Sem.run_pure, Result.andThen_ok]; exact hrun, rfl, rfl, HRel.of_hc a2 a1⟩
        · rename_i fs ho
          split at h
          · rename_i i0
            split at h
            · rename_i hv hfs
              split at h
              · rename_i hfit
                simp only [Option.some.injEq] at h; subst h
                obtain ⟨b', T, vs, k1, k2, k3⟩ := H.obj o _ ho
                rw [h1] at k1
                simp only [Option.some.injEq, Place.at.injEq] at k1
                obtain ⟨rfl, rfl, rfl, rfl⟩ := k1
                simp only [Sh.navs, Sh.step, Sh.size, Nat.mul_one, Nat.add_zero, Option.some.injEq, Prod.mk.injEq] at h2
                obtain ⟨rfl, rfl⟩ := h2
                have hlt : i0 < fs.length := (List.getElem?_eq_some_iff.1 hfs).1
                obtain ⟨a1, a2⟩ := HCs.get i0 k3 (s := .ref) (by simp [hlt]) hfs
                rw [List.take_replicate, sizes_ref, Nat.min_eq_left (by omega)] at a1 a2
                have hrun := run_loadVar_chunk (P := P) hpl Sh.size_one k2 (off := i0) (by simpa using a2)
                exact ⟨_, by simp only [Instr.loadAt, Instr.sureAddr, Sem.run_bind, Sem.run_pure, Result.andThen_ok]; exact hrun, rfl, rfl, HRel.of_hc hfit a1⟩
              · cases h
            · cases h
          · cases h
        · cases h
      · cases h
    · cases h
  · rename_i s d hrx
    rw [hrx] at hx
    obtain ⟨b, off, cs, T, fr, h1, h2, h3, h4⟩ := hx.gptr
    rw [h4]
    split at h
    · rename_i s' hs
      split at h
      · rename_i hbeq
        have := Sh.beq_eq hbeq; subst this
        simp only [Option.some.injEq] at h; subst h
        have hrun := run_loadVar_chunk (P := P) (hC.tab _ _ hs).1.plain Sh.size_one (H.ghost _ _ h1) h2
        exact ⟨_, by simp only [Instr.loadAt, Instr.sureAddr, Sem.run_bind, Sem.run_pure, Result.andThen_ok]; exact hrun, rfl, rfl, HRel.dat_iff.2 ⟨_, h3, rfl⟩⟩
      · cases h
    · cases h
  · cases h

theorem s_load (hC : CtxOK P c) {ρ : Operand → HV} {ρv : Operand → Value} (hρ : ∀ x, HRel g loc (ρ x) (ρv x)) (H : HeapRel w0 hp g loc w) {t : Nat} {x : Operand} {ty : Nat} {ef : Ef}
    (h : vop0 c nx ρ hp ty (.load t x) = some ef) : ∃ v, (Instr.loadAt t (ρv x)).run P w = .ok v w ∧ OpPost w0 hp nx g loc ef v w := by
  obtain ⟨v, h1, h2, h3, h4⟩ := s_load0 hC hρ H h
  exact ⟨v, h1, g, loc, Ghost.le_refl g, Loc.le_refl loc, fun _ _ => rfl, by rw [h2]; exact H, h4⟩

theorem oneCell_of {h : HV} {s : Sh} {v : Value} (hf : fits s h = true) (hr : HRel g loc h v) : HC g loc h v.cells.toList ∧ v.cells.size = s.size ∧ ∀ x ∈ v.cells.toList, x.oneCell' = true := by
  have h1 := HRel.cells (HRel.of_fits hf hr)
  have h2 := HC.length hf h1
  exact ⟨h1, by simpa using h2, h1.one⟩

theorem s_store (hC : CtxOK P c) {ρ : Operand → HV} {ρv : Operand → Value} (hρ : ∀ x, HRel g loc (ρ x) (ρv x)) (H : HeapRel w0 hp g loc w) {t : Nat} {x y : Operand} {ty : Nat} {ef : Ef}
    (h : vop0 c nx ρ hp ty (.store t x y) = some ef) : ∃ w', (Instr.storeAt t (ρv x) (ρv y)).run P w = .ok () w' ∧ OpPost w0 hp nx g loc ef undef w' := by
  simp only [vop0] at h
  have hx := hρ x
  split at h
  · rename_i o r p s hrx
    rw [hrx] at hx
    obtain ⟨b, cap, len, off, h1, h2, h3, h4⟩ := hx.ptr
    rw [h4]
    split at h
    · rename_i s' z hty
      have hpl := tyOf_plain hC hty
      split at h
      · rename_i hbeq
        simp only [Bool.and_eq_true] at hbeq
        have := Sh.beq_eq hbeq.1; subst this
        obtain ⟨y1, y2, y3⟩ := oneCell_of hbeq.2 (hρ y)
        split at h
        · rename_i sb vb ho
          obtain ⟨b', cap', len', T, vs, k1, k2, k3, k4, k5⟩ := H.obj o _ ho
          have k1' := k1
          rw [h1] at k1
          simp only [Option.some.injEq, Place.at.injEq] at k1
          obtain ⟨rfl, rfl, rfl, rfl⟩ := k1
          split at h
          · rename_i hn hput
            simp only [Option.some.injEq] at h; subst h
            obtain ⟨a1, a2, a3⟩ := HC.putP k5 k4.1 h2 h3 y1 hbeq.2 hput
            have hrun := run_storeVar_chunk (P := P) hpl k2 (off := off) (by omega) y2 y3
            refine ⟨_, by simp only [Instr.storeAt, Instr.sureAddr, Sem.run_bind, Sem.run_pure, Result.andThen_ok]; exact hrun, g, loc, Ghost.le_refl g, Loc.le_refl loc, fun _ _ => rfl, ?_, trivial⟩
            refine HeapRel.set H ho rfl h1 rfl (setRow_size _ _ _) (fun k hk => setRow_other _ _ _ _ hk) ⟨rfl, rfl⟩ ?_
            refine ⟨b, cap, len, T, _, h1, setRow_same _ k2, ?_, ⟨a2, k4.2⟩, by simpa using a1⟩
            have := HC.length a2 a1
            simpa using this
          · cases h
        · rename_i s0 xs ho
          rcases H.obj o _ ho with ⟨k1, _⟩ | ⟨b', cap', T, cs, k1, k2, k3, k4, k5⟩
          · rw [h1] at k1; cases k1
          · have k1' := k1
            rw [h1] at k1
            simp only [Option.some.injEq, Place.at.injEq] at k1
            obtain ⟨rfl, rfl, rfl, rfl⟩ := k1
            split at h
            · rename_i i p' s'' e hy
              simp only [Option.some.injEq] at h; subst h
              have hle : xs.length * s0.size ≤ cs.size := Nat.le_trans (Nat.mul_le_mul_right _ (by omega)) k3
              simp only [Sh.navs, Sh.step] at h2
              split at h2
              · rename_i s3 o3 h2'
                simp only [Option.some.injEq, Prod.mk.injEq] at h2
                obtain ⟨rfl, rfl⟩ := h2
                simp only [Sh.inPath, Sh.inStep, Sh.step] at h3
                have hi := h3.1
                have hin := h3.2 _ _ rfl
                rw [hy] at y1 hbeq
                simp only [HC] at y1
                have hse := hbeq.2
                simp only [fits] at hse
                have := Sh.beq_eq hse; subst this
                have hgi := k5 i hi
                have hput := Rel.puts hgi h2' hin y1
                have hgo := (Rel.gets hgi h2' hin).2
                have hi2 : i * s0.size + s0.size ≤ xs.length * s0.size := by
                  calc i * s0.size + s0.size = (i + 1) * s0.size := by rw [Nat.add_mul, Nat.one_mul]
                    _ ≤ _ := Nat.mul_le_mul_right _ hi
                have hrun := run_storeVar_chunk (P := P) hpl k2 (off := i * s0.size + o3) (by omega) y2 y3
                refine ⟨_, by simp only [Instr.storeAt, Instr.sureAddr, Sem.run_bind, Sem.run_pure, Result.andThen_ok]; exact hrun, g, loc, Ghost.le_refl g, Loc.le_refl loc, fun _ _ => rfl, ?_, trivial⟩
                refine HeapRel.set H ho rfl h1 rfl (setRow_size _ _ _) (fun k hk => setRow_other _ _ _ _ hk) ⟨rfl, rfl⟩ ?_
                right
                have hyl : (ρv y).cells.toList.length = s''.size := y1.length
                have hlen : (splice cs.toList (i * s0.size + o3) (ρv y).cells.toList).length = cs.size := by
                  rw [splice_length _ _ _ (by rw [hyl, Array.length_toList]; omega), Array.length_toList]
                refine ⟨b, cap, T, _, by simpa using h1, setRow_same _ k2, by simpa [hlen] using k3, by simpa using k4, fun j hj => ?_⟩
                simp only [List.length_set] at hj
                by_cases hji : j = i
                · subst hji
                  have e1 : (xs.set j (D.puts s0 (xs.getD j .Z) p' e)).getD j .Z = D.puts s0 (xs.getD j .Z) p' e := by simp [List.getD_eq_getElem?_getD, hj]
                  rw [e1]
                  have e2 : chunk (splice cs.toList (j * s0.size + o3) (ρv y).cells.toList) (j * s0.size) s0.size = splice (chunk cs.toList (j * s0.size) s0.size) o3 (ρv y).cells.toList := by
                    have hlc : (splice (chunk cs.toList (j * s0.size) s0.size) o3 (ρv y).cells.toList).length = s0.size := by
                      rw [splice_length _ _ _ (by rw [hyl, chunk_length _ _ _ (by simp; omega)]; exact hgo), chunk_length _ _ _ (by simp; omega)]
                    have := splice_chunk cs.toList (ρv y).cells.toList (j * s0.size) s0.size o3 (by rw [hyl]; exact hgo) (by simp; omega)
                    rw [← this]
                    have h6 := chunk_splice_same cs.toList (splice (chunk cs.toList (j * s0.size) s0.size) o3 (ρv y).cells.toList) (j * s0.size) (by rw [hlc]; simp; omega)
                    rw [hlc] at h6
                    exact h6
                  rw [e2]; exact hput
                · have e1 : (xs.set i (D.puts s0 (xs.getD i .Z) p' e)).getD j .Z = xs.getD j .Z := by simp [List.getD_eq_getElem?_getD, Ne.symm hji]
                  rw [e1, chunk_splice_other]
                  · exact k5 j hj
                  · rw [hyl]; simp; omega
                  · rw [hyl]
                    rcases Nat.lt_or_gt_of_ne hji with hlt | hgt
                    · left
                      have : j * s0.size + s0.size ≤ i * s0.size := by
                        calc j * s0.size + s0.size = (j + 1) * s0.size := by rw [Nat.add_mul, Nat.one_mul]
                          _ ≤ _ := Nat.mul_le_mul_right _ hlt
                      omega
                    · right
                      have : i * s0.size + s0.size ≤ j * s0.size := by
                        calc i * s0.size + s0.size = (i + 1) * s0.size := by rw [Nat.add_mul, Nat.one_mul]
                          _ ≤ _ := Nat.mul_le_mul_right _ hgt
                      omega
              · cases h2
            · cases h
        · cases h
      · cases h
    · cases h
  · cases h

theorem s_alloc (hC : CtxOK P c) {ρ : Operand → HV} (H : HeapRel w0 hp g loc w) (hn : loc nx = none) (hn1 : loc (nx + 1) = none) {t : Nat} {ty : Nat} {ef : Ef}
    (h : vop0 c nx ρ hp ty (.alloc t) = some ef) : ∃ v w', (Instr.alloc t true (.tuple #[])).run P w = .ok v w' ∧ OpPost w0 hp nx g loc ef v w' := by
  simp only [vop0] at h
  split at h
  · rename_i s hty
    simp only [Option.some.injEq] at h; subst h
    have hty' : tyOf c t = some (.slice s, none) := by simp [tyOf, hty]
    obtain ⟨zv, z1, z2, z3, z4⟩ := tyOf_zero (g := g) (loc := loc) hC hty'
    have H1 := H.new hn (ExtAll.refl w) .nil (.grow s []) (by intro b hb; simp [Place.blk] at hb) (.inl ⟨Loc.upd_same, rfl⟩)
    have hn2 : (loc.upd nx .nil) (nx + 1) = none := by rw [Loc.upd_other (by omega)]; exact hn1
    refine ⟨.pointer (some ⟨w.heap.size, 0, none⟩), w.alloc (.cells zv.cells t), ?_, g, (loc.upd nx .nil).upd (nx + 1) (.at w.heap.size 0 0 (.slice s)), Ghost.le_refl g, Loc.le_trans (Loc.le_upd hn) (Loc.le_upd hn2), fun o ho => ?_, ?_, ?_⟩
    · simp [Instr.alloc, z1, newVar, newRow]
    · simp only at ho
      rw [Loc.upd_other (by omega), Loc.upd_other (by omega)]
    · refine H1.new hn2 (ExtAll.alloc _ _) _ _ (by intro b hb; simp only [Place.blk, Option.some.injEq] at hb; omega) ?_
      refine ⟨w.heap.size, 0, 0, t, zv.cells, Loc.upd_same, heap_alloc_new _ _, z2, ⟨by simp [fits, Sh.size, Sh.agg], trivial⟩, ?_⟩
      simp only [H0, HC] at z3
      simp only [HC]
      exact .inl ⟨by rw [Loc.upd_other (by omega)]; exact Loc.upd_same, none, z3.1⟩
    · exact HRel.ptr_mk Loc.upd_same (by simp [Sh.navs]) (by simp [Sh.inPath])
  split at h
  · rename_i s z hty
    simp only [Option.some.injEq] at h; subst h
    obtain ⟨zv, z1, z2, z3, z4⟩ := tyOf_zero (g := g) (loc := loc) hC hty
    refine ⟨.pointer (some ⟨w.heap.size, 0, none⟩), w.alloc (.cells zv.cells t), ?_, g, loc.upd nx (.at w.heap.size s.arrN s.arrN s), Ghost.le_refl g, Loc.le_upd hn, fun o ho => Loc.upd_other (by simp only at ho; omega), ?_, ?_⟩
    · simp [Instr.alloc, z1, newVar, newRow]
    · refine H.new hn (ExtAll.alloc _ _) _ _ (by intro b hb; simp only [Place.blk, Option.some.injEq] at hb; omega) ?_
      exact ⟨w.heap.size, s.arrN, s.arrN, t, zv.cells, Loc.upd_same, heap_alloc_new _ _, z2, ⟨z4, arrC_mk s⟩, z3.mono (Ghost.le_refl g) (Loc.le_upd hn)⟩
    · exact HRel.ptr_mk Loc.upd_same (by simp [Sh.navs]) (by simp [Sh.inPath])
  · cases h

theorem s_box {ρ : Operand → HV} {ρv : Operand → Value} (hρ : ∀ x, HRel g loc (ρ x) (ρv x)) (H : HeapRel w0 hp g loc w) (hn : loc nx = none) {t : Nat} {x : Operand} {ty : Nat} {ef : Ef}
    (h : vop0 c nx ρ hp ty (.box t x) = some ef) : ∃ v w', (Instr.box t (ρv x)).run P w = .ok v w' ∧ OpPost w0 hp nx g loc ef v w' := by
  simp only [vop0] at h
  split at h
  · rename_i s z hty
    split at h
    · rename_i hf
      simp only [Option.some.injEq] at h; subst h
      obtain ⟨y1, y2, _⟩ := oneCell_of hf (hρ x)
      refine ⟨.pointer (some ⟨w.heap.size, 0, none⟩), w.alloc (.cells (ρv x).cells t), ?_, g, loc.upd nx (.at w.heap.size s.arrN s.arrN s), Ghost.le_refl g, Loc.le_upd hn, fun o ho => Loc.upd_other (by simp only at ho; omega), ?_, ?_⟩
      · simp [Instr.box, newVar, newRow]
      · refine H.new hn (ExtAll.alloc _ _) _ _ (by intro b hb; simp only [Place.blk, Option.some.injEq] at hb; omega) ?_
        exact ⟨w.heap.size, s.arrN, s.arrN, t, (ρv x).cells, Loc.upd_same, heap_alloc_new _ _, y2, ⟨hf, arrC_mk s⟩, y1.mono (Ghost.le_refl g) (Loc.le_upd hn)⟩
      · exact HRel.ptr_mk Loc.upd_same (by simp [Sh.navs]) (by simp [Sh.inPath])
    · cases h
  · cases h
end
end Go.Vm

noncomputable section
namespace Go.Vm
open Go

section
variable {P : Program} {c : Ctx} {g : Ghost} {loc : Loc} {w0 : Base} {w : World} {hp : Hp} {nx : Nat}

theorem run_indexAt_vec {t n cap b : Nat} {e : TypeId} {z : Value} {k : IntKind} {i : Int} (hu : P.underlying t = some (.slice e)) (hz : RefLay P e z) (h0 : 0 ≤ i) (h1 : i < n) (w : World) :
    (Instr.indexAt t (.slice (some ⟨b, 0, none⟩) n cap) (.int k i)).run P w = .ok (.pointer (some ⟨b, i.toNat, none⟩)) w := by
  simp [Instr.indexAt, asIntOf, run_underlying hu, h0, h1, run_size hz.plain, addr_add]

theorem s_binOp (hC : CtxOK P c) {ρ : Operand → HV} {ρv : Operand → Value} (hρ : ∀ x, HRel g loc (ρ x) (ρv x)) (H : HeapRel w0 hp g loc w) {op : BinOp} {t t' : Nat} {x y : Operand} {ty : Nat} {ef : Ef}
    (h : vop0 c nx ρ hp ty (.binOp op t x y t') = some ef) (hpre : holds ef.pre) :
    ∃ v, (do eqGuard op t x y (ρv x) (ρv y); binOp op t (ρv x) (ρv y) : Sem Value).run P w = .ok v w ∧ OpPost w0 hp nx g loc ef v w := by
  simp only [vop0] at h
  have hx := hρ x
  have hy := hρ y
  split at h
  · rename_i k a k' b hrx hry
    rw [hrx] at hx; rw [hry] at hy
    obtain ⟨ex, hx1⟩ := hx.int
    obtain ⟨ey, _⟩ := hy.int
    split at h
    · rename_i hv p har
      simp only [Option.some.injEq] at h; subst h
      obtain ⟨v, h1, h2⟩ := arith_run (P := P) (g := g) (loc := loc) har hpre hx1 w
      rw [ex, ey]
      refine ⟨v, ?_, OpPost.pure H h2⟩
      rw [Sem.run_bind, run_eqGuard_other _ _ _ _ _ _ (by simp) (by simp), Result.andThen_ok, binOp_int_ty op t 0]
      exact h1
    · cases h
  · rename_i a b hrx hry
    rw [hrx] at hx; rw [hry] at hy
    have ex := hx.bool
    have ey := hy.bool
    split at h
    · rename_i hty
      have hl := (hC.tab _ _ hty).1
      simp only [Lay] at hl
      rw [ex, ey]
      have hq : (Op.equal t (.bool a.bool) (.bool b.bool)).run P w = .ok (a.bool == b.bool) w := run_equalIn_bool' w 9999 t _ _ hl.2
      split at h
      · simp only [Option.some.injEq] at h; subst h
        refine ⟨.bool (a.bool == b.bool), ?_, OpPost.pure H HRel.bool_mk⟩
        rw [Sem.run_bind, run_eqGuard_other _ _ _ _ _ _ (by simp) (by simp), Result.andThen_ok]
        simp only [binOp, Sem.run_bind, hq, Result.andThen_ok, Sem.run_pure]
      · simp only [Option.some.injEq] at h; subst h
        refine ⟨.bool (!(a.bool == b.bool)), ?_, OpPost.pure H HRel.bool_mk⟩
        rw [Sem.run_bind, run_eqGuard_other _ _ _ _ _ _ (by simp) (by simp), Result.andThen_ok]
        simp only [binOp, Sem.run_bind, hq, Result.andThen_ok, Sem.run_pure]
      · cases h
    · cases h
  · rename_i s a s' b _ _ hrx hry
    rw [hrx] at hx; rw [hry] at hy
    split at h
    · rename_i s2 hty
      split at h
      · rename_i hcond
        simp only [Bool.and_eq_true] at hcond
        obtain ⟨⟨⟨⟨ha, hb1⟩, hb2⟩, hfl⟩, hdep⟩ := hcond
        have := Sh.beq_eq hb1; subst this
        have := Sh.beq_eq hb2; subst this
        obtain ⟨us, u1, u2⟩ := HRel.dat_iff.1 hx
        obtain ⟨vs, v1, v2⟩ := HRel.dat_iff.1 hy
        have hl := (hC.tab _ _ hty).1
        have hq := equalIn_run (g := g) (d := 10000) hl hfl (by have := Nat.le_of_ble_eq_true hdep; omega) u1 v1 w
        have hguard : P.eqGuardType P.depth t = false := by
          cases s <;> simp [Sh.agg] at ha <;> simp only [Lay] at hl
          · exact hl.2.2.1
          · exact hl.2.2
        rw [ha] at u2 v2 hq
        rw [u2, v2]
        simp only [mkV] at hq ⊢
        split at h
        · simp only [Option.some.injEq] at h; subst h
          refine ⟨.bool (eqD s a b), ?_, OpPost.pure H HRel.bool_mk⟩
          rw [Sem.run_bind, run_eqGuard_agg w _ _ _ _ _ _ hguard, Result.andThen_ok, run_eql_struct, hq]
          rfl
        · simp only [Option.some.injEq] at h; subst h
          refine ⟨.bool (!eqD s a b), ?_, OpPost.pure H HRel.bool_mk⟩
          rw [Sem.run_bind, run_eqGuard_agg w _ _ _ _ _ _ hguard, Result.andThen_ok, run_neq_struct, hq]
          rfl
        · cases h
      · cases h
    · cases h
  · cases h

theorem s_unOp {ρ : Operand → HV} {ρv : Operand → Value} (hρ : ∀ x, HRel g loc (ρ x) (ρv x)) (H : HeapRel w0 hp g loc w) {op : UnOp} {t : Nat} {x : Operand} {ty : Nat} {ef : Ef}
    (h : vop0 c nx ρ hp ty (.unOp op t x) = some ef) : ∃ v, (Op.unary op (ρv x)).run P w = .ok v w ∧ OpPost w0 hp nx g loc ef v w := by
  simp only [vop0] at h
  have hx := hρ x
  split at h
  · rename_i d hrx
    rw [hrx] at hx
    simp only [Option.some.injEq] at h; subst h
    rw [hx.bool]
    exact ⟨_, by simp only [Op.unary, Sem.run_pure], OpPost.pure H HRel.bool_mk⟩
  · rename_i k d hrx
    rw [hrx] at hx
    simp only [Option.some.injEq] at h; subst h
    rw [hx.int.1]
    exact ⟨_, unary_sound.1, OpPost.pure H (HRel.int_mk (wrap_in _ _).1 (wrap_in _ _).2)⟩
  · rename_i k d hrx
    rw [hrx] at hx
    simp only [Option.some.injEq] at h; subst h
    rw [hx.int.1]
    exact ⟨_, unary_sound.2, OpPost.pure H (HRel.int_mk (wrap_in _ _).1 (wrap_in _ _).2)⟩
  · cases h

theorem s_fieldAddr (hC : CtxOK P c) {ρ : Operand → HV} {ρv : Operand → Value} (hρ : ∀ x, HRel g loc (ρ x) (ρv x)) (H : HeapRel w0 hp g loc w) {t i : Nat} {x : Operand} {ty : Nat} {ef : Ef}
    (h : vop0 c nx ρ hp ty (.fieldAddr t x i) = some ef) : ∃ v, (Instr.fieldAt t (ρv x) i).run P w = .ok v w ∧ OpPost w0 hp nx g loc ef v w := by
  simp only [vop0] at h
  have hx := hρ x
  split at h
  · rename_i o r p s s' hrx hty
    rw [hrx] at hx
    split at h
    · rename_i hb
      have := Sh.beq_eq hb; subst this
      split at h
      · rename_i s1 o1 hst
        simp only [Option.some.injEq] at h; subst h
        obtain ⟨b, cap, len, off, h1, h2, h3, h4⟩ := hx.ptr
        obtain ⟨ss, rfl, hs1, rfl⟩ := step_fld hst
        rw [h4]
        exact ⟨_, run_fieldAt (hC.tab _ _ hty).1 hst w, OpPost.pure H (HRel.ptr_mk h1 (navs_snoc h2 hst) (inPath_snoc h2 h3 (by simp [Sh.inStep])))⟩
      · cases h
    · cases h
  · rename_i s d s' hrx hty
    rw [hrx] at hx
    split at h
    · rename_i hb
      have := Sh.beq_eq hb; subst this
      split at h
      · rename_i s1 o1 hst
        simp only [Option.some.injEq] at h; subst h
        obtain ⟨b, off, cs, T, fr, h1, h2, h3, h4⟩ := hx.gptr
        obtain ⟨ss, rfl, hs1, rfl⟩ := step_fld hst
        rw [h4]
        obtain ⟨k1, k2⟩ := Rel.get h3 hst (by simp [Sh.inStep])
        rw [chunk_chunk _ _ _ _ _ k2] at k1
        exact ⟨_, run_fieldAt (hC.tab _ _ hty).1 hst w, OpPost.pure H (HRel.gptr_mk h1 (by omega) k1)⟩
      · cases h
    · cases h
  · cases h

theorem s_indexAddr (hC : CtxOK P c) {ρ : Operand → HV} {ρv : Operand → Value} (hρ : ∀ x, HRel g loc (ρ x) (ρv x)) (H : HeapRel w0 hp g loc w) {t : Nat} {x ix : Operand} {ty : Nat} {ef : Ef}
    (h : vop0 c nx ρ hp ty (.indexAddr t x ix) = some ef) (hpre : holds ef.pre) : ∃ v, (Instr.indexAt t (ρv x) (ρv ix)).run P w = .ok v w ∧ OpPost w0 hp nx g loc ef v w := by
  simp only [vop0] at h
  have hx := hρ x
  have hi := hρ ix
  split at h
  · rename_i kk k hri
    rw [hri] at hi
    rw [hi.int.1]
    split at h
    · rename_i n s1 o r p s hty hrx
      rw [hrx] at hx
      split at h
      · rename_i hb
        have := Sh.beq_eq hb; subst this
        simp only [Option.some.injEq] at h; subst h
        simp only [holds] at hpre
        obtain ⟨b, cap, len, off, h1, h2, h3, h4⟩ := hx.ptr
        rw [h4]
        have hst : (Sh.arr n s1).step (.idx k.int.toNat) = some (s1, k.int.toNat * s1.size) := rfl
        exact ⟨_, run_indexAt_arr (hC.tab _ _ hty).1 hpre.1 hpre.2 w, OpPost.pure H (HRel.ptr_mk h1 (navs_snoc h2 hst) (inPath_snoc h2 h3 (by simp only [Sh.inStep]; omega)))⟩
      · cases h
    · rename_i n s1 s d hty hrx
      rw [hrx] at hx
      split at h
      · rename_i hb
        have := Sh.beq_eq hb; subst this
        simp only [Option.some.injEq] at h; subst h
        simp only [holds] at hpre
        obtain ⟨b, off, cs, T, fr, h1, h2, h3, h4⟩ := hx.gptr
        rw [h4]
        have hst : (Sh.arr n s1).step (.idx k.int.toNat) = some (s1, k.int.toNat * s1.size) := rfl
        obtain ⟨k1, k2⟩ := Rel.get h3 hst (by simp only [Sh.inStep]; omega)
        rw [chunk_chunk _ _ _ _ _ k2] at k1
        exact ⟨_, run_indexAt_arr (hC.tab _ _ hty).1 hpre.1 hpre.2 w, OpPost.pure H (HRel.gptr_mk h1 (by omega) k1)⟩
      · cases h
    · rename_i s1 o s hty hrx
      rw [hrx] at hx
      split at h
      · rename_i hb
        have := Sh.beq_eq hb; subst this
        split at h
        · rename_i s0 xs ho
          split at h
          · rename_i hb2
            have := Sh.beq_eq hb2; subst this
            simp only [Option.some.injEq] at h; subst h
            simp only [holds] at hpre
            obtain ⟨us, h1, h2⟩ := hx
            simp only [HC] at h1
            rcases H.obj o _ ho with ⟨k1, rfl⟩ | ⟨b, cap, T, cs, k1, k2, k3, k4, k5⟩
            · simp at hpre; omega
            · rcases h1 with ⟨e1, _⟩ | ⟨b', cap', len', e1, rfl⟩
              · rw [k1] at e1; cases e1
              · rw [k1] at e1
                simp only [Option.some.injEq, Place.at.injEq] at e1
                obtain ⟨rfl, rfl, rfl, _⟩ := e1
                rw [h2]
                simp only [HV.agg, mkV, List.headD_cons]
                have := run_indexAt_slice (P := P) (hC.tab _ _ hty).1 (b := b) (off := 0) (cap := cap) (n := xs.length) (k := kk) hpre.1 hpre.2 w
                refine ⟨_, this, OpPost.pure H (HRel.ptr_mk k1 ?_ ?_)⟩
                · simp [Sh.navs, Sh.step]
                · simp only [Sh.inPath, Sh.inStep]
                  exact ⟨by omega, fun _ _ _ => trivial⟩
          · cases h
        · rename_i s0 xs ho
          split at h
          · rename_i hb2
            have := Sh.beq_eq hb2; subst this
            simp only [Option.some.injEq] at h; subst h
            simp only [holds] at hpre
            obtain ⟨us, h1, h2⟩ := HRel.dat_iff.1 (froz_hrel H ho hx)
            simp only [Rel, D.list] at h1
            obtain ⟨a, cap, rfl, h1⟩ := h1
            cases a with
            | none => simp only at h1; rw [h1.1] at hpre; simp at hpre; omega
            | some a =>
              obtain ⟨h4, h1⟩ := h1
              replace h4 : xs.length ≤ cap := by omega
              obtain ⟨h3, cs, T, fr, h5, h6, h7⟩ := h1 (by omega)
              obtain ⟨b, off, spot⟩ := a
              simp only at h3 h5 h6 h7
              subst h3
              rw [h2]
              simp only [Sh.agg, mkV, List.headD_cons]
              have hlt : k.int.toNat < xs.length := by omega
              have := run_indexAt_slice (P := P) (hC.tab _ _ hty).1 (b := b) (off := off) (cap := cap) (n := xs.length) (k := kk) hpre.1 hpre.2 w
              refine ⟨_, this, OpPost.pure H (HRel.gptr_mk h5 ?_ (h7 _ hlt))⟩
              have : k.int.toNat * s0.size + s0.size ≤ cap * s0.size := by
                calc k.int.toNat * s0.size + s0.size = (k.int.toNat + 1) * s0.size := by rw [Nat.add_mul, Nat.one_mul]
                  _ ≤ _ := Nat.mul_le_mul_right _ (by omega)
              omega
          · cases h
        · cases h
      · cases h
    · rename_i s1 s d hty hrx
      rw [hrx] at hx
      split at h
      · rename_i hb
        have := Sh.beq_eq hb; subst this
        simp only [Option.some.injEq] at h; subst h
        simp only [holds] at hpre
        obtain ⟨us, h1, h2⟩ := HRel.dat_iff.1 hx
        simp only [Rel] at h1
        obtain ⟨a, cap, rfl, h1⟩ := h1
        cases a with
        | none => simp only at h1; rw [h1.1] at hpre; simp at hpre; omega
        | some a =>
          obtain ⟨h4, h1⟩ := h1
          replace h4 : d.list.length ≤ cap := by omega
          obtain ⟨h3, cs, T, fr, h5, h6, h7⟩ := h1 (by omega)
          obtain ⟨b, off, spot⟩ := a
          simp only at h3 h5 h6 h7
          subst h3
          rw [h2]
          simp only [Sh.agg, mkV, List.headD_cons]
          have hlt : k.int.toNat < d.list.length := by omega
          have := run_indexAt_slice (P := P) (hC.tab _ _ hty).1 (b := b) (off := off) (cap := cap) (n := d.list.length) (k := kk) hpre.1 hpre.2 w
          refine ⟨_, this, OpPost.pure H (HRel.gptr_mk h5 ?_ (h7 _ hlt))⟩
          have : k.int.toNat * s1.size + s1.size ≤ cap * s1.size := by
            calc k.int.toNat * s1.size + s1.size = (k.int.toNat + 1) * s1.size := by rw [Nat.add_mul, Nat.one_mul]
              _ ≤ _ := Nat.mul_le_mul_right _ (by omega)
          omega
      · cases h
    · rename_i s1 o s i j hty hrx
      rw [hrx] at hx
      split at h
      · rename_i hb
        have := Sh.beq_eq hb; subst this
        split at h
        · rename_i s0 xs ho
          split at h
          · rename_i hb2
            have := Sh.beq_eq hb2; subst this
            simp only [Option.some.injEq] at h; subst h
            simp only [holds] at hpre
            obtain ⟨us, h1, h2⟩ := hx
            simp only [HC] at h1
            rcases h1 with ⟨_, e2, e3, _⟩ | ⟨b', cap', len', e1, e2, e3, rfl⟩
            · omega
            · rcases H.obj o _ ho with ⟨k1, rfl⟩ | ⟨b, cap, T, cs, k1, k2, k3, k4, k5⟩
              · rw [k1] at e1; cases e1
              · rw [k1] at e1
                simp only [Option.some.injEq, Place.at.injEq] at e1
                obtain ⟨rfl, rfl, rfl, _⟩ := e1
                rw [h2]
                simp only [HV.agg, mkV, List.headD_cons]
                have hcap : ¬ cap = i := by omega
                rw [if_neg hcap]
                have := run_indexAt_slice (P := P) (hC.tab _ _ hty).1 (b := b) (off := i * s0.size) (cap := cap - i) (n := j - i) (k := kk) hpre.1 (by omega) w
                refine ⟨_, this, OpPost.pure H (HRel.ptr_mk k1 ?_ ?_)⟩
                · simp [Sh.navs, Sh.step, Nat.add_mul]
                · simp only [Sh.inPath, Sh.inStep]
                  exact ⟨by omega, fun _ _ _ => trivial⟩
          · cases h
        · cases h
      · cases h
    · rename_i o hty hrx
      rw [hrx] at hx
      split at h
      · rename_i fs hmt ho
        simp only [Option.some.injEq] at h; subst h
        simp only [holds] at hpre
        obtain ⟨e, z, hu, hz⟩ := hC.maps _ _ hmt
        obtain ⟨us, h1, h2⟩ := hx
        simp only [HC] at h1
        obtain ⟨b, T, vs, k1, k2, k3⟩ := H.obj o _ ho
        rcases h1 with ⟨e1, _⟩ | ⟨b', cap', len', e1, rfl⟩
        · rw [k1] at e1; cases e1
        · rw [k1] at e1
          simp only [Option.some.injEq, Place.at.injEq] at e1
          obtain ⟨rfl, rfl, rfl, _⟩ := e1
          rw [h2]
          simp only [HV.agg, mkV, List.headD_cons]
          have := run_indexAt_vec (P := P) hu hz (b := b) (cap := fs.length) (n := fs.length) (k := kk) hpre.1 hpre.2 w
          refine ⟨_, this, OpPost.pure H (HRel.ptr_mk k1 ?_ ?_)⟩
          · simp [Sh.navs, Sh.step, Sh.size]
          · simp only [Sh.inPath, Sh.inStep]
            exact ⟨by omega, fun _ _ _ => trivial⟩
      · cases h
    · cases h
  · cases h

theorem s_field (hC : CtxOK P c) {ρ : Operand → HV} {ρv : Operand → Value} (hρ : ∀ x, HRel g loc (ρ x) (ρv x)) (H : HeapRel w0 hp g loc w) {t i : Nat} {x : Operand} {ty : Nat} {ef : Ef}
    (h : vop0 c nx ρ hp ty (.field t x i) = some ef) : ∃ v, (Instr.field t (ρv x) i).run P w = .ok v w ∧ OpPost w0 hp nx g loc ef v w := by
  simp only [vop0] at h
  have hx := hρ x
  split at h
  · rename_i ss d s' hrx hty
    rw [hrx] at hx
    split at h
    · rename_i hb
      have := Sh.beq_eq hb; subst this
      split at h
      · rename_i s1 hs1
        simp only [Option.some.injEq] at h; subst h
        obtain ⟨us, h1, h2⟩ := HRel.dat_iff.1 hx
        have hl := (hC.tab _ _ hty).1
        simp only [Lay] at hl
        obtain ⟨_, ⟨fs, hu, hls⟩, _⟩ := hl
        obtain ⟨f, hf, hoff, hpos, hlf⟩ := lays_get P hls hs1
        have hf' : fs[i]? = some f := by simpa using hf
        simp only [Rel] at h1
        obtain ⟨k1, k2⟩ := Rels.get i h1 hs1
        rw [Nat.zero_add] at k1 hoff
        have hp := run_part hlf.plain Sh.size_one us.toArray (Sh.sizes (ss.take i)) (by simpa using k2) w
        rw [h2]
        refine ⟨_, ?_, OpPost.pure H (HRel.dat_iff.2 ⟨_, k1, rfl⟩)⟩
        simp only [Instr.field, Sem.run_bind, run_underlying hu, Result.andThen_ok, hf', Sh.agg, mkV, asAgg, Sem.run_pure, hoff]
        exact hp
      · cases h
    · cases h
  · rename_i ss fs0 s' hrx hty
    rw [hrx] at hx
    split at h
    · rename_i hb
      have := Sh.beq_eq hb; subst this
      split at h
      · rename_i f0 s1 hf0 hs1
        split at h
        · rename_i hfit
          simp only [Option.some.injEq] at h; subst h
          obtain ⟨us, h1, h2⟩ := hx
          have hl := (hC.tab _ _ hty).1
          simp only [Lay] at hl
          obtain ⟨_, ⟨fs, hu, hls⟩, _⟩ := hl
          obtain ⟨f, hf, hoff, hpos, hlf⟩ := lays_get P hls hs1
          have hf' : fs[i]? = some f := by simpa using hf
          simp only [HC] at h1
          obtain ⟨k1, k2⟩ := HCs.get i h1 hs1 hf0
          rw [Nat.zero_add] at hoff
          have hp := run_part hlf.plain Sh.size_one us.toArray (Sh.sizes (ss.take i)) (by simpa using k2) w
          rw [h2]
          refine ⟨_, ?_, OpPost.pure H (HRel.of_hc hfit k1)⟩
          simp only [Instr.field, Sem.run_bind, run_underlying hu, Result.andThen_ok, hf', HV.agg, mkV, asAgg, Sem.run_pure, hoff]
          exact hp
        · cases h
      · cases h
    · cases h
  · cases h

theorem s_index (hC : CtxOK P c) {ρ : Operand → HV} {ρv : Operand → Value} (hρ : ∀ x, HRel g loc (ρ x) (ρv x)) (H : HeapRel w0 hp g loc w) {t : Nat} {x ix : Operand} {ty : Nat} {ef : Ef}
    (h : vop0 c nx ρ hp ty (.index t x ix) = some ef) (hpre : holds ef.pre) : ∃ v, (Instr.index t (ρv x) (ρv ix)).run P w = .ok v w ∧ OpPost w0 hp nx g loc ef v w := by
  simp only [vop0] at h
  have hx := hρ x
  have hi := hρ ix
  split at h
  · rename_i n s d kk k s' hrx hri hty
    rw [hrx] at hx; rw [hri] at hi
    rw [hi.int.1]
    split at h
    · rename_i hb
      have := Sh.beq_eq hb; subst this
      simp only [Option.some.injEq] at h; subst h
      simp only [holds] at hpre
      obtain ⟨us, h1, h2⟩ := HRel.dat_iff.1 hx
      have hl := (hC.tab _ _ hty).1
      simp only [Lay] at hl
      obtain ⟨_, ⟨e, hu, hle⟩, _⟩ := hl
      have hst : (Sh.arr n s).step (.idx k.int.toNat) = some (s, k.int.toNat * s.size) := rfl
      obtain ⟨k1, k2⟩ := Rel.get h1 hst (by simp only [Sh.inStep]; omega)
      have hul := h1.length
      have hp := run_part hle.plain Sh.size_one us.toArray (k.int.toNat * s.size) (by simp [hul]; exact k2) w
      rw [h2]
      refine ⟨_, ?_, OpPost.pure H (HRel.dat_iff.2 ⟨_, k1, rfl⟩)⟩
      simp only [Instr.index, asIntOf, Sem.run_bind, Sem.run_pure, Result.andThen_ok, run_underlying hu, Sh.agg, mkV]
      rw [if_pos hpre]
      simp only [Sem.run_bind, run_size hle.plain, Result.andThen_ok]
      exact hp
    · cases h
  · rename_i d kk k hrx hri hty
    rw [hrx] at hx; rw [hri] at hi
    rw [hi.int.1]
    simp only [Option.some.injEq] at h; subst h
    simp only [holds] at hpre
    obtain ⟨us, h1, h2⟩ := HRel.dat_iff.1 hx
    simp only [Rel] at h1
    obtain ⟨h1, _⟩ := h1
    subst h1
    have hl := (hC.tab _ _ hty).1
    simp only [Lay] at hl
    have hb : k.int.toNat < d.str.size := by omega
    have hget : d.str[k.int.toNat]? = some d.str[k.int.toNat] := by
      simp only [getElem?_pos, hb]
    rw [h2]
    refine ⟨.int .u8 (d.str[k.int.toNat].toNat : Int), ?_, OpPost.pure H ?_⟩
    · simp only [Instr.index, asIntOf, Sem.run_bind, Sem.run_pure, Result.andThen_ok, run_underlying hl.2, Sh.agg, mkV, List.headD_cons]
      rw [if_pos hpre.1, hget]
      rfl
    · have e : strAt d.str k.int = (d.str[k.int.toNat].toNat : Int) := by
        unfold strAt; rw [hget]
      have hlt := d.str[k.int.toNat].toNat_lt
      rw [e]
      exact HRel.int_mk (by show (0 : Int) ≤ _; omega) (by show _ ≤ (255 : Int); omega)
  · cases h

theorem s_extract {ρ : Operand → HV} {ρv : Operand → Value} (hρ : ∀ x, HRel g loc (ρ x) (ρv x)) (H : HeapRel w0 hp g loc w) {i : Nat} {x : Operand} {ty : Nat} {ef : Ef}
    (h : vop0 c nx ρ hp ty (.extract x i) = some ef) : ∃ v, (Instr.extract (ρv x) i).run P w = .ok v w ∧ OpPost w0 hp nx g loc ef v w := by
  simp only [vop0] at h
  have hx := hρ x
  split at h
  · rename_i vs hrx
    rw [hrx] at hx
    split at h
    · rename_i h0 hv0
      simp only [Option.some.injEq] at h; subst h
      obtain ⟨us, h1, h2⟩ := hx
      obtain ⟨v, k1, k2⟩ := HVs_get h1 hv0
      rw [h2]
      refine ⟨v, ?_, OpPost.pure H k2⟩
      have : us.toArray[i]? = some v := by simpa using k1
      simp only [Instr.extract, this, Sem.run_pure]
    · cases h
  · cases h
end
end Go.Vm

noncomputable section
namespace Go.Vm
open Go

theorem HeapRel.congr {w0 : Base} {w : World} {hp hp' : Hp} {g : Ghost} {loc : Loc} (he : ∀ o, lk hp' o = lk hp o) (H : HeapRel w0 hp g loc w) : HeapRel w0 hp' g loc w where
  obj := fun o vo h => H.obj o vo (by rw [← he]; exact h)
  inj := fun o o' vo vo' b x x' h h' => H.inj o o' vo vo' b x x' (by rw [← he]; exact h) (by rw [← he]; exact h')
  ghost := H.ghost
  sep := fun o vo b x h => H.sep o vo b x (by rw [← he]; exact h)
  low := fun o vo b x h => H.low o vo b x (by rw [← he]; exact h)
  ext := H.ext
  size := H.size
  old := H.old
  still := H.still

section
variable {P : Program} {c : Ctx} {g : Ghost} {loc : Loc} {w0 : Base} {w : World} {hp : Hp} {nx : Nat}

theorem replicate_getD (n j : Nat) (d : D) (h : j < n) : (List.replicate n d).getD j .Z = d := by simp [List.getD_eq_getElem?_getD, h]

theorem range_mod_cells (n : Nat) (z : Array Value) : ((Array.range (n * z.size)).map (z[· % z.size]!)).toList = (List.replicate n z.toList).flatten := by
  simp only [Array.toList_map, Array.toList_range]
  induction n with
  | zero => simp
  | succ n ih =>
    rw [List.replicate_succ', List.flatten_append, ← ih, Nat.add_mul, Nat.one_mul, List.range_add, List.map_append]
    congr 1
    simp only [List.map_map, List.flatten_cons, List.flatten_nil, List.append_nil]
    apply List.ext_getElem?
    intro i
    by_cases hi : i < z.size
    · simp [hi, Nat.mod_eq_of_lt hi]
    · simp [hi]

theorem rel_replicate {s : Sh} (hd : s.data = true) (n : Nat) : ∀ j, j < (List.replicate n (D0 s)).length → Rel g s ((List.replicate n (D0 s)).getD j .Z) (chunk (List.replicate n (zcells s)).flatten (j * s.size) s.size) := by
  intro j hj
  simp only [List.length_replicate] at hj
  have hz := Rel.zero g s hd
  rw [replicate_getD _ _ _ hj, ← hz.length, flatten_chunk _ _ _ hj]
  exact hz

theorem zero_cells {s : Sh} (hd : s.data = true) : (mkV s.agg (zcells s)).cells.toList = zcells s := by
  have h4 := Rel.zero (fun _ => none) s hd
  cases hs2 : s.agg with
  | true => simp [mkV, Value.cells]
  | false =>
    have h6 := h4.length
    have h7 := Sh.size_one hs2
    have h8 := h4.one
    match hz2 : zcells s, h6, h8 with
    | [v], _, h8 =>
      have := h8 v (by simp)
      cases v <;> simp_all [mkV, Value.cells, Value.oneCell']
    | [], h6, _ => simp at h6; omega
    | _ :: _ :: _, h6, _ => simp at h6; omega

theorem putElems_len {ρ : Operand → HV} {s : Sh} : ∀ {ps : List (Nat × Operand)} {xs ys : List D}, vop0.putElems ρ s xs ps = some ys → ys.length = xs.length
  | [], xs, ys, h => by simp only [vop0.putElems, Option.some.injEq] at h; rw [h]
  | (i, x) :: rest, xs, ys, h => by
    simp only [vop0.putElems] at h
    split at h
    · split at h
      · have := putElems_len h; simpa using this
      · cases h
    · cases h

theorem fill_elems {ρ : Operand → HV} {ρv : Operand → Value} (hρ : ∀ x, HRel g loc (ρ x) (ρv x)) {s : Sh} : ∀ (ps : List (Nat × Operand)) (xs ys : List D) (cells : Array Value), vop0.putElems ρ s xs ps = some ys →
    cells.size = xs.length * s.size → (∀ j, j < xs.length → Rel g s (xs.getD j .Z) (chunk cells.toList (j * s.size) s.size)) →
    ∃ cells', Instr.fill (fun i => some (i * s.size, s.size)) cells (ps.map fun p => (p.1, ρv p.2)) = some cells' ∧ cells'.size = ys.length * s.size ∧ ∀ j, j < ys.length → Rel g s (ys.getD j .Z) (chunk cells'.toList (j * s.size) s.size)
  | [], xs, ys, cells, h, h1, h2 => by
    simp only [vop0.putElems, Option.some.injEq] at h; subst h
    exact ⟨cells, rfl, h1, h2⟩
  | (i, x) :: rest, xs, ys, cells, h, h1, h2 => by
    simp only [vop0.putElems] at h
    split at h
    · rename_i s' d hrx
      split at h
      · rename_i hc
        simp only [Bool.and_eq_true] at hc
        have := Sh.beq_eq hc.1; subst this
        have hi : i < xs.length := by
          have h9 : i + 1 ≤ xs.length := by have := hc.2; simpa [Nat.blt] using this
          omega
        have hx := hρ x
        rw [hrx] at hx
        have hcx := HRel.cells (h := .dat s' d) hx
        simp only [HC] at hcx
        have hlx := hcx.length
        have hb : i * s'.size + s'.size ≤ xs.length * s'.size := by
          calc i * s'.size + s'.size = (i + 1) * s'.size := by rw [Nat.add_mul, Nat.one_mul]
            _ ≤ _ := Nat.mul_le_mul_right _ hi
        obtain ⟨cells', k1, k2⟩ := fill_cons (fun i => some (i * s'.size, s'.size)) cells i (ρv x) (rest.map fun p => (p.1, ρv p.2)) rfl (by simpa using hlx) (by omega)
        have hl' : cells'.size = xs.length * s'.size := by
          rw [← Array.length_toList, k1, splice_length _ _ _ (by rw [hlx, Array.length_toList]; omega), Array.length_toList]; exact h1
        obtain ⟨c2, m1, m2, m3⟩ := fill_elems hρ rest (xs.set i d) ys cells' h (by simpa using hl') (by
          intro j hj
          simp only [List.length_set] at hj
          rw [k1]
          by_cases hji : j = i
          · subst hji
            have e1 : (xs.set j d).getD j .Z = d := by simp [List.getD_eq_getElem?_getD, hj]
            rw [e1]
            have := chunk_splice_same cells.toList (ρv x).cells.toList (j * s'.size) (by rw [hlx, Array.length_toList]; omega)
            rw [hlx] at this
            rw [this]; exact hcx
          · have e1 : (xs.set i d).getD j .Z = xs.getD j .Z := by simp [List.getD_eq_getElem?_getD, Ne.symm hji]
            rw [e1, chunk_splice_other]
            · exact h2 j hj
            · rw [hlx, Array.length_toList]; omega
            · rw [hlx]
              rcases Nat.lt_or_gt_of_ne hji with hlt | hgt
              · left
                calc j * s'.size + s'.size = (j + 1) * s'.size := by rw [Nat.add_mul, Nat.one_mul]
                  _ ≤ _ := Nat.mul_le_mul_right _ hlt
              · right
                calc i * s'.size + s'.size = (i + 1) * s'.size := by rw [Nat.add_mul, Nat.one_mul]
                  _ ≤ _ := Nat.mul_le_mul_right _ hgt)
        refine ⟨c2, ?_, m2, m3⟩
        simp only [List.map_cons]
        rw [k2]; exact m1
      · cases h
    · cases h

theorem own_mk {b cap len : Nat} {o : Nat} {s : Sh} (h : loc o = some (.at b cap len (.arr len s))) : HRel g loc (.own o s) (.slice (some ⟨b, 0, none⟩) len cap) := by
  show ∃ us, HC g loc (.own o s) us ∧ _ = mkV _ us
  exact ⟨[.slice (some ⟨b, 0, none⟩) len cap], by simp only [HC]; exact .inr ⟨b, cap, len, h, rfl⟩, rfl⟩

theorem s_build (hC : CtxOK P c) {ρ : Operand → HV} {ρv : Operand → Value} (hρ : ∀ x, HRel g loc (ρ x) (ρv x)) (H : HeapRel w0 hp g loc w) {t : Nat} {ps : Array (Nat × Operand)} {ty : Nat} {ef : Ef}
    (h : vop0 c nx ρ hp ty (.build t ps) = some ef) : ∃ v, (Instr.build t (ps.map fun (i, x) => (i, ρv x))).run P w = .ok v w ∧ OpPost w0 hp nx g loc ef v w := by
  simp only [vop0] at h
  split at h
  · rename_i ss hty
    split at h
    · rename_i fs hfs
      simp only [Option.some.injEq] at h; subst h
      obtain ⟨hl, hd⟩ := hC.tab _ _ hty
      obtain ⟨v, h1, h2⟩ := run_build_struct (P := P) (g := g) (loc := loc) hl (by simpa [Sh.data] using hd) (fun p _ => hρ p.2) hfs w
      exact ⟨v, h1, OpPost.pure H h2⟩
    · cases h
  · rename_i n s hty
    split at h
    · rename_i xs hxs
      simp only [Option.some.injEq] at h; subst h
      obtain ⟨hl, hd⟩ := hC.tab _ _ hty
      have hl0 := hl
      simp only [Lay] at hl
      obtain ⟨⟨i, hi1, hi2, hi3, _⟩, ⟨e, hu, hle⟩, _⟩ := hl
      have hz := Rel.zero g (.arr n s) hd
      have hlen := putElems_len hxs
      simp only [List.length_replicate] at hlen
      have hzc : (mkV (Sh.arr n s).agg (zcells (.arr n s))).cells.toList = zcells (.arr n s) := by simp [Sh.agg, mkV, Value.cells]
      have hz2 := hz
      simp only [Rel] at hz2
      obtain ⟨cells', k1, k2, k3⟩ := fill_elems hρ ps.toList (List.replicate n (D0 s)) xs (mkV (Sh.arr n s).agg (zcells (.arr n s))).cells hxs (by rw [← Array.length_toList, hzc, hz2.1, List.length_replicate]) (by
        intro j hj
        simp only [List.length_replicate] at hj
        rw [replicate_getD _ _ _ hj, hzc]
        have := hz2.2 j hj
        simpa [D0, D.nth] using this)
      refine ⟨.agg cells', ?_, OpPost.pure H (HRel.dat_iff.2 ⟨cells'.toList, ?_, by simp [Sh.agg, mkV]⟩)⟩
      · have e1 : (ps.map fun (x : Nat × Operand) => (x.1, ρv x.2)).toList = ps.toList.map fun p => (p.1, ρv p.2) := by simp
        simp only [Instr.build, Sem.run_bind, run_zero (P := P) ⟨i, hi1, hi3⟩, Result.andThen_ok, run_underlying hu, run_size hle.plain, e1, k1, Sem.run_pure]
      · simp only [Rel]
        refine ⟨by rw [Array.length_toList, k2, hlen], fun j hj => ?_⟩
        have := k3 j (by omega)
        simpa [D.nth] using this
    · cases h
  · cases h

theorem HCs_ref : ∀ {fs : List HV} {vs : List Value}, vs.length = fs.length → (∀ (k : Nat) h, fs[k]? = some h → ∃ v, vs[k]? = some v ∧ HC g loc h [v]) → HCs g loc (List.replicate fs.length .ref) fs vs
  | [], [], _, _ => by simp [HCs]
  | f :: fs, v :: vs, hl, h => by
    simp only [List.length_cons, List.replicate_succ, HCs, Sh.size, List.take_succ_cons, List.take_zero, List.drop_succ_cons, List.drop_zero]
    obtain ⟨v', h1, h2⟩ := h 0 f rfl
    simp only [List.getElem?_cons_zero, Option.some.injEq] at h1
    subst h1
    exact ⟨by omega, h2, HCs_ref (by simpa using hl) fun k h' hk => by simpa using h (k + 1) h' (by simpa using hk)⟩
  | [], _ :: _, hl, _ => by simp at hl
  | _ :: _, [], hl, _ => by simp at hl
theorem fill_vec {ρ : Operand → HV} {ρv : Operand → Value} (hρ : ∀ x, HRel g loc (ρ x) (ρv x)) : ∀ (ps : List (Nat × Operand)) (j : Nat) (hs : List HV) (cells : Array Value), vecArgs ρ ps j = some hs → j + hs.length ≤ cells.size →
    ∃ cells' : Array Value, Instr.fill (fun i => some (i * 1, 1)) cells (ps.map fun p => (p.1, ρv p.2)) = some cells' ∧ cells'.size = cells.size ∧ (∀ i, i < j → cells'[i]? = cells[i]?) ∧ ∀ (k : Nat) h, hs[k]? = some h → ∃ v, cells'[j + k]? = some v ∧ HC g loc h [v]
  | [], j, hs, cells, h, _ => by
    simp only [vecArgs, Option.some.injEq] at h; subst h
    exact ⟨cells, rfl, rfl, fun _ _ => rfl, fun k h hk => by simp at hk⟩
  | (i, x) :: ps, j, hs, cells, h, hsz => by
    simp only [vecArgs] at h
    split at h
    · rename_i hb
      simp only [Bool.and_eq_true] at hb
      have := Nat.eq_of_beq_eq_true hb.1; subst this
      split at h
      · rename_i hs' hhs
        simp only [Option.some.injEq] at h; subst h
        simp only [List.length_cons] at hsz
        obtain ⟨y1, y2, y3⟩ := oneCell_of hb.2 (hρ x)
        simp only [Sh.size] at y2
        obtain ⟨v, hv⟩ : ∃ v, (ρv x).cells = #[v] := by
          match hc : (ρv x).cells.toList, (show (ρv x).cells.toList.length = 1 by simpa using y2) with
          | [v], _ => exact ⟨v, by rw [← Array.toList_inj, hc]⟩
        obtain ⟨cells', k1, k2, k3, k4⟩ := fill_vec hρ ps (i + 1) hs' (cells.setIfInBounds i v) hhs (by simp; omega)
        refine ⟨cells', ?_, by simpa using k2, fun l hl => ?_, fun k h hk => ?_⟩
        · simp only [List.map_cons, Instr.fill, hv]
          rw [if_neg (by simp; omega)]
          simpa using k1
        · rw [k3 l (by omega), Array.getElem?_setIfInBounds, if_neg (by omega)]
        · cases k with
          | zero =>
            simp only [List.getElem?_cons_zero, Option.some.injEq] at hk
            subst hk
            refine ⟨v, ?_, by rw [hv] at y1; exact y1⟩
            rw [Nat.add_zero, k3 i (by omega), Array.getElem?_setIfInBounds]
            simp; omega
          | succ k =>
            obtain ⟨v', h1, h2⟩ := k4 k h (by simpa using hk)
            exact ⟨v', by rw [show i + (k + 1) = i + 1 + k by omega]; exact h1, h2⟩
      · cases h
    · cases h

theorem s_buildSlice (hC : CtxOK P c) {ρ : Operand → HV} {ρv : Operand → Value} (hρ : ∀ x, HRel g loc (ρ x) (ρv x)) (H : HeapRel w0 hp g loc w) (hn : loc nx = none) {t n : Nat} {ps : Array (Nat × Operand)} {ty : Nat} {ef : Ef}
    (h : vop0 c nx ρ hp ty (.buildSlice t n ps) = some ef) : ∃ v w', (Instr.buildSlice t n (ps.map fun (i, x) => (i, ρv x))).run P w = .ok v w' ∧ OpPost w0 hp nx g loc ef v w' := by
  simp only [vop0] at h
  split at h
  · rename_i s hty
    split at h
    · rename_i xs hxs
      split at h
      · rename_i hle
        simp only [Option.some.injEq] at h; subst h
        obtain ⟨hl, hd⟩ := hC.tab _ _ hty
        simp only [Lay] at hl
        obtain ⟨_, e, hu, hle'⟩ := hl
        have hds : s.data = true := by simpa [Sh.data] using hd
        obtain ⟨i, hi1, hi2, hi3, _⟩ := hle'.ty
        have hzl := (Rel.zero g s hds).length
        have hz0 := zero_cells hds
        have hzsz : (mkV s.agg (zcells s)).cells.size = s.size := by rw [← Array.length_toList, hz0, hzl]
        have hlen := putElems_len hxs
        simp only [List.length_replicate] at hlen
        simp only [Bool.and_eq_true] at hle
        have hbound := Nat.le_of_ble_eq_true hle.1
        have hbound2 := Nat.le_of_ble_eq_true hle.2
        -- the cells at the beginning
        obtain ⟨z, hz, hzs, hzc⟩ : ∃ z : Array Value, ((n * s.size = 0 ∧ z = #[]) ∨ (n * s.size ≠ 0 ∧ z = (mkV s.agg (zcells s)).cells)) ∧ ((Array.range (n * s.size)).map (z[· % z.size]!)).size = n * s.size ∧
            ∀ j, j < n → Rel g s (D0 s) (chunk ((Array.range (n * s.size)).map (z[· % z.size]!)).toList (j * s.size) s.size) := by
          by_cases h0 : n * s.size = 0
          · refine ⟨#[], .inl ⟨h0, rfl⟩, by simp, fun j hj => ?_⟩
            have hs0 : s.size = 0 := by
              rcases Nat.mul_eq_zero.1 h0 with h0 | h0
              · omega
              · exact h0
            have : zcells s = [] := List.length_eq_zero_iff.1 (by rw [hzl, hs0])
            have hz := Rel.zero g s hds
            rw [this] at hz
            simp only [hs0, chunk, List.take_zero]; exact hz
          · refine ⟨(mkV s.agg (zcells s)).cells, .inr ⟨h0, rfl⟩, by simp, fun j hj => ?_⟩
            have := range_mod_cells n (mkV s.agg (zcells s)).cells
            rw [hzsz, hz0] at this
            rw [hzsz, this, ← hzl, flatten_chunk _ _ _ hj]
            exact Rel.zero g s hds
        obtain ⟨cells', k1, k2, k3⟩ := fill_elems hρ ps.toList _ xs ((Array.range (n * s.size)).map (z[· % z.size]!)) hxs (by simp) (by
          intro j hj
          simp only [List.length_replicate] at hj
          rw [replicate_getD _ _ _ hj]
          exact hzc j hj)
        refine ⟨.slice (some ⟨w.heap.size, 0, none⟩) n n, w.alloc (.cells cells' e), ?_, g, loc.upd nx (.at w.heap.size n n (.arr n s)), Ghost.le_refl g, Loc.le_upd hn, fun o ho => Loc.upd_other (by simp only at ho; omega), ?_, own_mk Loc.upd_same⟩
        · simp only [Instr.buildSlice, Sem.run_bind, run_underlying hu, Result.andThen_ok, run_size hle'.plain]
          rw [if_neg (by omega)]
          have e1 : (ps.map fun (x : Nat × Operand) => (x.1, ρv x.2)).toList = ps.toList.map fun p => (p.1, ρv p.2) := by simp
          rcases hz with ⟨h0, rfl⟩ | ⟨h0, rfl⟩
          · rw [if_pos h0]
            simp only [Sem.run_pure, Result.andThen_ok, Sem.run_bind, e1, k1, newRow, run_newObj]
            rfl
          · rw [if_neg h0]
            simp only [Sem.run_pure, Result.andThen_ok, Sem.run_bind, e1, run_zero (P := P) ⟨i, hi1, hi3⟩, k1, newRow, run_newObj]
            rfl
        · refine H.new hn (ExtAll.alloc _ _) _ _ (by intro b hb; simp only [Place.blk, Option.some.injEq] at hb; omega) ?_
          right
          rw [hlen]
          exact ⟨w.heap.size, n, e, cells', Loc.upd_same, heap_alloc_new _ _, Nat.le_of_eq (by rw [k2, hlen]), by omega, fun j hj => k3 j (by omega)⟩
      · cases h
    · cases h
  · split at h
    · rename_i hmt
      split at h
      · rename_i fs hfs
        split at h
        · rename_i hb
          simp only [Bool.and_eq_true] at hb
          have hn1 := Nat.eq_of_beq_eq_true hb.1
          have hn2 := Nat.le_of_ble_eq_true hb.2
          subst hn1
          simp only [Option.some.injEq] at h; subst h
          obtain ⟨e, z, hu, hz⟩ := hC.maps _ _ hmt
          obtain ⟨⟨i, hi1, hi2, hi3⟩, _⟩ := id hz
          -- the cells at the beginning
          obtain ⟨z0, hz0⟩ : ∃ z0 : Array Value, (fs.length * 1 = 0 ∧ z0 = #[]) ∨ (fs.length * 1 ≠ 0 ∧ z0 = z.cells) := by
            by_cases h0 : fs.length * 1 = 0
            · exact ⟨#[], .inl ⟨h0, rfl⟩⟩
            · exact ⟨z.cells, .inr ⟨h0, rfl⟩⟩
          obtain ⟨cells', k1, k2, _, k4⟩ := fill_vec hρ ps.toList 0 fs ((Array.range (fs.length * 1)).map (z0[· % z0.size]!)) hfs (by simp)
          refine ⟨.slice (some ⟨w.heap.size, 0, none⟩) fs.length fs.length, w.alloc (.cells cells' e), ?_, g, loc.upd nx (.at w.heap.size fs.length fs.length (.arr fs.length .ref)), Ghost.le_refl g, Loc.le_upd hn, fun o ho => Loc.upd_other (by simp only at ho; omega), ?_, ?_⟩
          · have e1 : (ps.map fun (x : Nat × Operand) => (x.1, ρv x.2)).toList = ps.toList.map fun p => (p.1, ρv p.2) := by simp
            simp only [Instr.buildSlice, Sem.run_bind, run_underlying hu, Result.andThen_ok, run_size hz.plain]
            rw [if_neg (by omega)]
            rcases hz0 with ⟨h0, rfl⟩ | ⟨h0, rfl⟩
            · rw [if_pos h0]
              simp only [Sem.run_pure, Result.andThen_ok, Sem.run_bind, e1, k1, newRow, run_newObj]
              rfl
            · rw [if_neg h0]
              simp only [Sem.run_pure, Result.andThen_ok, Sem.run_bind, e1, run_zero (P := P) ⟨i, hi1, hi3⟩, k1, newRow, run_newObj]
              rfl
          · refine H.new hn (ExtAll.alloc _ _) _ _ (by intro b hb; simp only [Place.blk, Option.some.injEq] at hb; omega) ?_
            refine ⟨w.heap.size, e, cells', Loc.upd_same, heap_alloc_new _ _, HCs_ref (by simp [k2]) fun k h hk => ?_⟩
            obtain ⟨v, h1, h2⟩ := k4 k h hk
            rw [Nat.zero_add] at h1
            exact ⟨v, by simpa using h1, h2.mono (Ghost.le_refl g) (Loc.le_upd hn)⟩
          · refine ⟨[.slice (some ⟨w.heap.size, 0, none⟩) fs.length fs.length], ?_, rfl⟩
            simp only [HC]
            exact .inr ⟨_, _, _, Loc.upd_same, rfl⟩
        · cases h
      · cases h
    · cases h
  · cases h
end
end Go.Vm

noncomputable section
namespace Go.Vm
open Go

section
variable {P : Program} {c : Ctx} {g : Ghost} {loc : Loc} {w0 : Base} {w : World} {hp : Hp} {nx : Nat}

theorem HRel.own {o : Nat} {s : Sh} {v : Value} (h : HRel g loc (.own o s) v) : (loc o = some .nil ∧ ∃ a, v = .slice a 0 0) ∨ ∃ b cap len, loc o = some (.at b cap len (.arr len s)) ∧ v = .slice (some ⟨b, 0, none⟩) len cap := by
  obtain ⟨us, h1, h2⟩ := h
  simp only [HC] at h1
  rcases h1 with ⟨e1, a, rfl⟩ | ⟨b, cap, len, e1, rfl⟩
  · exact .inl ⟨e1, a, h2⟩
  · exact .inr ⟨b, cap, len, e1, h2⟩

theorem HRel.cst {v v' : Value} (h : HRel g loc (.cst v) v') : v' = v := by
  obtain ⟨us, h1, h2⟩ := h
  simp only [HC] at h1
  obtain ⟨rfl, _⟩ := h1
  exact h2

theorem s_makeSlice (hC : CtxOK P c) {ρ : Operand → HV} {ρv : Operand → Value} (hρ : ∀ x, HRel g loc (ρ x) (ρv x)) (H : HeapRel w0 hp g loc w) (hn : loc nx = none) {t : Nat} {l k : Operand} {ty : Nat} {ef : Ef}
    (h : vop0 c nx ρ hp ty (.makeSlice t l k) = some ef) (hpre : holds ef.pre) : ∃ v w', (Instr.makeSlice t (ρv l) (ρv k)).run P w = .ok v w' ∧ OpPost w0 hp nx g loc ef v w' := by
  simp only [vop0] at h
  have hl := hρ l
  have hk := hρ k
  split at h
  · rename_i s kk a kk' b hty hrl hrk
    rw [hrl] at hl; rw [hrk] at hk
    simp only [Option.some.injEq] at h; subst h
    simp only [holds] at hpre
    obtain ⟨hp1, hp2, hp3⟩ := hpre
    obtain ⟨hlay, hd⟩ := hC.tab _ _ hty
    simp only [Lay] at hlay
    obtain ⟨_, e, hu, hle⟩ := hlay
    have hds : s.data = true := by simpa [Sh.data] using hd
    obtain ⟨i, hi1, hi2, hi3, hi4⟩ := hle.ty
    rw [hl.int.1, hk.int.1]
    have wa : IntKind.i64.wrap a.int = a.int := by simp only [IntKind.wrap, IntKind.signed, IntKind.bits]; simp; omega
    have wb : IntKind.i64.wrap b.int = b.int := by simp only [IntKind.wrap, IntKind.signed, IntKind.bits]; simp; omega
    have hbig : ∀ n : Int, 0 ≤ n → n ≤ 1073741824 → ((decide (n < 0) || decide ((i.bytes : Int) * n > 2 ^ 48)) = false) := by
      intro n h1 h2
      have : (i.bytes : Int) * n ≤ 65536 * 1073741824 := Int.mul_le_mul (by omega) h2 h1 (by omega)
      simp only [Bool.or_eq_false_iff, decide_eq_false_iff_not]
      constructor
      · omega
      · have e : (2 : Int) ^ 48 = 281474976710656 := by decide
        rw [e]; omega
    have hz0 := zero_cells hds
    have hzl := (Rel.zero g s hds).length
    have hzsz : (mkV s.agg (zcells s)).cells.size = s.size := by rw [← Array.length_toList, hz0, hzl]
    obtain ⟨z, hz, hzs, hzc⟩ : ∃ z : Array Value, ((b.int.toNat * s.size = 0 ∧ z = #[]) ∨ (b.int.toNat * s.size ≠ 0 ∧ z = (mkV s.agg (zcells s)).cells)) ∧ ((Array.range (b.int.toNat * s.size)).map (z[· % z.size]!)).size = b.int.toNat * s.size ∧
        ∀ j, j < b.int.toNat → Rel g s (D0 s) (chunk ((Array.range (b.int.toNat * s.size)).map (z[· % z.size]!)).toList (j * s.size) s.size) := by
      by_cases h0 : b.int.toNat * s.size = 0
      · refine ⟨#[], .inl ⟨h0, rfl⟩, by simp, fun j hj => ?_⟩
        have hs0 : s.size = 0 := by
          rcases Nat.mul_eq_zero.1 h0 with h0 | h0
          · omega
          · exact h0
        have : zcells s = [] := List.length_eq_zero_iff.1 (by rw [hzl, hs0])
        have hz := Rel.zero g s hds
        rw [this] at hz
        simp only [hs0, chunk, List.take_zero]; exact hz
      · refine ⟨(mkV s.agg (zcells s)).cells, .inr ⟨h0, rfl⟩, by simp, fun j hj => ?_⟩
        have := range_mod_cells b.int.toNat (mkV s.agg (zcells s)).cells
        rw [hzsz, hz0] at this
        rw [hzsz, this, ← hzl, flatten_chunk _ _ _ hj]
        exact Rel.zero g s hds
    refine ⟨.slice (some ⟨w.heap.size, 0, none⟩) a.int.toNat b.int.toNat, w.alloc (.cells ((Array.range (b.int.toNat * s.size)).map (z[· % z.size]!)) e), ?_, g, loc.upd nx (.at w.heap.size b.int.toNat a.int.toNat (.arr a.int.toNat s)), Ghost.le_refl g,
      Loc.le_upd hn, fun o ho => Loc.upd_other (by simp only at ho; omega), ?_, own_mk Loc.upd_same⟩
    · have hti : ∀ w, (typeInfo e).run P w = .ok i w := fun w => by simp [typeInfo, hi1]
      simp only [Instr.makeSlice, Sem.run_bind, run_underlying hu, Result.andThen_ok, asInt, asIntOf, Sem.run_pure, hti, wa, wb]
      rw [if_neg (by
        rw [hbig _ (by omega) hp3]
        simp only [Bool.false_or, Bool.or_eq_true, decide_eq_true_eq, not_or]
        omega)]
      simp only [Sem.run_bind, run_askRoom, Result.andThen_ok, run_size hle.plain]
      rcases hz with ⟨h0, rfl⟩ | ⟨h0, rfl⟩
      · rw [if_pos h0]
        simp only [Sem.run_pure, Result.andThen_ok, Sem.run_bind, newRow, run_newObj]
        rfl
      · rw [if_neg h0]
        simp only [Sem.run_pure, Result.andThen_ok, Sem.run_bind, run_zero (P := P) ⟨i, hi1, hi3⟩, newRow, run_newObj]
        rfl
    · refine H.new hn (ExtAll.alloc _ _) _ _ (by intro b hb; simp only [Place.blk, Option.some.injEq] at hb; omega) ?_
      right
      simp only [List.length_replicate]
      refine ⟨w.heap.size, b.int.toNat, e, _, Loc.upd_same, heap_alloc_new _ _, Nat.le_of_eq hzs.symm, by omega, fun j hj => ?_⟩
      rw [replicate_getD _ _ _ hj]
      exact hzc j (by omega)
  · cases h

theorem s_len (hC : CtxOK P c) {ρ : Operand → HV} {ρv : Operand → Value} (hρ : ∀ x, HRel g loc (ρ x) (ρv x)) (H : HeapRel w0 hp g loc w) {args : Array Operand} {tys : Array TypeId} {ty : Nat} {ef : Ef}
    (h : vop0 c nx ρ hp ty (.call { callee := .builtin .len, args, argTypes := tys }) = some ef) (hpre : holds ef.pre) : ∃ v, (Builtin.len_ tys ty (args.map ρv)).run P w = .ok v w ∧ OpPost w0 hp nx g loc ef v w := by
  simp only [vop0] at h
  split at h
  · rename_i x t hargs htys
    have ha : args = #[x] := by rw [← Array.toList_inj]; exact hargs
    have ht : tys = #[t] := by rw [← Array.toList_inj]; exact htys
    subst ha; subst ht
    have hx := hρ x
    have i64b : ∀ n : Nat, n ≤ 9223372036854775807 → IntKind.i64.min ≤ (n : Int) ∧ (n : Int) ≤ IntKind.i64.max := by
      intro n hn
      have e1 : IntKind.i64.min = -9223372036854775808 := by decide
      have e2 : IntKind.i64.max = 9223372036854775807 := by decide
      omega
    split at h
    · rename_i s d s' hrx hty
      rw [hrx] at hx
      simp only [Option.some.injEq] at h; subst h
      simp only [holds] at hpre
      have hl := (hC.tab _ _ hty).1
      simp only [Lay] at hl
      obtain ⟨_, e, hu, _⟩ := hl
      obtain ⟨us, h1, h2⟩ := HRel.dat_iff.1 hx
      have hlen := h1.inR
      simp only [InR] at hlen
      simp only [Rel] at h1
      obtain ⟨a, cap, rfl, _⟩ := h1
      simp only [Sh.agg, mkV, List.headD_cons] at h2
      refine ⟨_, ?_, OpPost.pure H (HRel.int_mk (i64b _ hlen.1).1 (i64b _ hlen.1).2)⟩
      simp [Builtin.len_, run_underlying hu, h2, goInt]
    · rename_i d hrx hty
      rw [hrx] at hx
      simp only [Option.some.injEq] at h; subst h
      have hl := (hC.tab _ _ hty).1
      simp only [Lay] at hl
      obtain ⟨us, h1, h2⟩ := HRel.dat_iff.1 hx
      simp only [Rel] at h1
      obtain ⟨rfl, hlen⟩ := h1
      simp only [Sh.agg, mkV, List.headD_cons] at h2
      refine ⟨_, ?_, OpPost.pure H (HRel.int_mk (i64b _ hlen).1 (i64b _ hlen).2)⟩
      simp [Builtin.len_, run_underlying hl.2, h2, goInt]
    · rename_i o s s' hrx hty
      rw [hrx] at hx
      split at h
      · rename_i s0 xs ho
        simp only [Option.some.injEq] at h; subst h
        simp only [holds] at hpre
        have hl := (hC.tab _ _ hty).1
        simp only [Lay] at hl
        obtain ⟨_, e, hu, _⟩ := hl
        have hlen : xs.length ≤ 9223372036854775807 := by
          rcases H.obj o _ ho with ⟨_, rfl⟩ | ⟨_, _, _, _, _, _, _, k4, _⟩
          · simp
          · omega
        refine ⟨_, ?_, OpPost.pure H (HRel.int_mk (i64b _ hlen).1 (i64b _ hlen).2)⟩
        rcases H.obj o _ ho with ⟨k1, rfl⟩ | ⟨b, cap, T, cs, k1, k2, k3, k4, k5⟩
        · rcases hx.own with ⟨_, a, hv⟩ | ⟨b', cap', len', e1, _⟩
          · simp [Builtin.len_, run_underlying hu, hv, goInt]
          · rw [k1] at e1; cases e1
        · rcases hx.own with ⟨e1, _⟩ | ⟨b', cap', len', e1, hv⟩
          · rw [k1] at e1; cases e1
          · rw [k1] at e1
            simp only [Option.some.injEq, Place.at.injEq] at e1
            obtain ⟨rfl, rfl, rfl, _⟩ := e1
            simp [Builtin.len_, run_underlying hu, hv, goInt]
      · rename_i s0 xs ho
        simp only [Option.some.injEq] at h; subst h
        simp only [holds] at hpre
        have hl := (hC.tab _ _ hty).1
        simp only [Lay] at hl
        obtain ⟨_, e, hu, _⟩ := hl
        have hlen : xs.length ≤ 9223372036854775807 := by
          rcases H.obj o _ ho with ⟨_, rfl⟩ | ⟨_, _, _, _, _, _, _, k4, _⟩
          · simp
          · omega
        refine ⟨_, ?_, OpPost.pure H (HRel.int_mk (i64b _ hlen).1 (i64b _ hlen).2)⟩
        rcases H.obj o _ ho with ⟨k1, rfl⟩ | ⟨b, cap, T, cs, k1, k2, k3, k4, k5⟩
        · rcases hx.own with ⟨_, a, hv⟩ | ⟨b', cap', len', e1, _⟩
          · simp [Builtin.len_, run_underlying hu, hv, goInt]
          · rw [k1] at e1; cases e1
        · rcases hx.own with ⟨e1, _⟩ | ⟨b', cap', len', e1, hv⟩
          · rw [k1] at e1; cases e1
          · rw [k1] at e1
            simp only [Option.some.injEq, Place.at.injEq] at e1
            obtain ⟨rfl, rfl, rfl, _⟩ := e1
            simp [Builtin.len_, run_underlying hu, hv, goInt]
      · cases h
    · rename_i o s0 a b s' hrx hty
      rw [hrx] at hx
      split at h
      · rename_i s1 xs ho
        simp only [Option.some.injEq] at h; subst h
        have hl := (hC.tab _ _ hty).1
        simp only [Lay] at hl
        obtain ⟨_, e, hu, _⟩ := hl
        obtain ⟨us, h1, h2⟩ := hx
        simp only [HC] at h1
        have hlen : b - a ≤ 9223372036854775807 ∧ ∃ p cap, us = [.slice p (b - a) cap] := by
          rcases h1 with ⟨_, e2, e3, q, e4⟩ | ⟨b', cap', len', e1, e2, e3, e4⟩
          · exact ⟨by omega, q, 0, by rw [e4, e2, e3]⟩
          · rcases H.obj o _ ho with ⟨k1, rfl⟩ | ⟨bb, cap, T, cs, k1, k2, k3, k4, k5⟩
            · rw [k1] at e1; cases e1
            · rw [k1] at e1
              simp only [Option.some.injEq, Place.at.injEq] at e1
              obtain ⟨rfl, rfl, rfl, _⟩ := e1
              exact ⟨by omega, _, _, e4⟩
        obtain ⟨hlen, p, cap, rfl⟩ := hlen
        refine ⟨_, ?_, OpPost.pure H (HRel.int_mk (i64b _ hlen).1 (i64b _ hlen).2)⟩
        simp only [HV.agg, mkV, List.headD_cons] at h2
        simp [Builtin.len_, run_underlying hu, h2, goInt]
      · cases h
    · rename_i o s0 hrx hty
      rw [hrx] at hx
      split at h
      · rename_i fs hmt ho
        simp only [Option.some.injEq] at h; subst h
        simp only [holds] at hpre
        obtain ⟨e, z, hu, hz⟩ := hC.maps _ _ hmt
        obtain ⟨b, T, vs, k1, k2, k3⟩ := H.obj o _ ho
        refine ⟨_, ?_, OpPost.pure H (HRel.int_mk (i64b _ (by omega)).1 (i64b _ (by omega)).2)⟩
        rcases hx.own with ⟨e1, _⟩ | ⟨b', cap', len', e1, hv⟩
        · rw [k1] at e1; cases e1
        · rw [k1] at e1
          simp only [Option.some.injEq, Place.at.injEq] at e1
          obtain ⟨rfl, rfl, rfl, _⟩ := e1
          simp [Builtin.len_, run_underlying hu, hv, goInt]
      · cases h
    · rename_i o ks0 vs0 hrx hty
      rw [hrx] at hx
      split at h
      · rename_i ks' vs' ks vs es hmt ho
        simp only [Option.some.injEq] at h; subst h
        simp only [holds] at hpre
        obtain ⟨kt, e, hu, _⟩ := hC.maps _ _ hmt
        obtain ⟨b, arr, k1, k2, k3⟩ := H.obj o _ ho
        refine ⟨_, ?_, OpPost.pure H (HRel.int_mk (i64b _ hpre).1 (i64b _ hpre).2)⟩
        obtain ⟨us, h1, h2⟩ := hx
        simp only [HC] at h1
        obtain ⟨b', e1, rfl⟩ := h1
        rw [k1] at e1
        simp only [Option.some.injEq, Place.obj.injEq] at e1
        subst e1
        have hl := k3.length
        simp only [Array.length_toList] at hl
        have hv : ρv x = .map (some b) := by rw [h2]; rfl
        simp [Builtin.len_, run_underlying hu, hv, goInt, MapKept.run_getObj_map k2, hl]
      · cases h
    · rename_i n s' _ _ _ _ hty
      split at h
      · rename_i hn
        simp only [Option.some.injEq] at h; subst h
        have hl := (hC.tab _ _ hty).1
        simp only [Lay] at hl
        obtain ⟨_, ⟨e, hu, _⟩, _⟩ := hl
        have hn' := Nat.le_of_ble_eq_true hn
        refine ⟨_, ?_, OpPost.pure H (HRel.int_mk (i64b _ (Nat.le_trans hn' (by decide))).1 (i64b _ (Nat.le_trans hn' (by decide))).2)⟩
        simp [Builtin.len_, run_underlying hu, goInt]
      · cases h
    · cases h
  · cases h

theorem s_max {ρ : Operand → HV} {ρv : Operand → Value} (hρ : ∀ x, HRel g loc (ρ x) (ρv x)) (H : HeapRel w0 hp g loc w) {args : Array Operand} {tys : Array TypeId} {ty : Nat} {ef : Ef}
    (h : vop0 c nx ρ hp ty (.call { callee := .builtin .max, args, argTypes := tys }) = some ef) : ∃ v, (Builtin.max_ tys ty (args.map ρv)).run P w = .ok v w ∧ OpPost w0 hp nx g loc ef v w := by
  simp only [vop0] at h
  split at h
  · rename_i x y hargs
    have ha : args = #[x, y] := by rw [← Array.toList_inj]; exact hargs
    subst ha
    have hx := hρ x
    have hy := hρ y
    split at h
    · rename_i k a k' b hrx hry
      rw [hrx] at hx; rw [hry] at hy
      split at h
      · rename_i hk
        simp only [decide_eq_true_eq] at hk; subst hk
        simp only [Option.some.injEq] at h; subst h
        obtain ⟨ex, x1, x2⟩ := hx.int
        obtain ⟨ey, y1, y2⟩ := hy.int
        refine ⟨.int k (if b.int > a.int then b.int else a.int), ?_, OpPost.pure H (HRel.int_mk (by split <;> assumption) (by split <;> assumption))⟩
        simp [Builtin.max_, ex, ey, Builtin.max2]
      · cases h
    · cases h
  · cases h

theorem s_min {ρ : Operand → HV} {ρv : Operand → Value} (hρ : ∀ x, HRel g loc (ρ x) (ρv x)) (H : HeapRel w0 hp g loc w) {args : Array Operand} {tys : Array TypeId} {ty : Nat} {ef : Ef}
    (h : vop0 c nx ρ hp ty (.call { callee := .builtin .min, args, argTypes := tys }) = some ef) : ∃ v, (Builtin.min_ tys ty (args.map ρv)).run P w = .ok v w ∧ OpPost w0 hp nx g loc ef v w := by
  simp only [vop0] at h
  split at h
  · rename_i x y hargs
    have ha : args = #[x, y] := by rw [← Array.toList_inj]; exact hargs
    subst ha
    have hx := hρ x
    have hy := hρ y
    split at h
    · rename_i k a k' b hrx hry
      rw [hrx] at hx; rw [hry] at hy
      split at h
      · rename_i hk
        simp only [decide_eq_true_eq] at hk; subst hk
        simp only [Option.some.injEq] at h; subst h
        obtain ⟨ex, x1, x2⟩ := hx.int
        obtain ⟨ey, y1, y2⟩ := hy.int
        refine ⟨.int k (if b.int < a.int then b.int else a.int), ?_, OpPost.pure H (HRel.int_mk (by split <;> assumption) (by split <;> assumption))⟩
        simp [Builtin.min_, ex, ey, Builtin.min2]
      · cases h
    · cases h
  · cases h

theorem elems_of (H : HeapRel w0 hp g loc w) {s : Sh} {h : HV} {d : D} {v : Value} (ha : argD hp (.slice s) h = some d) (hr : HRel g loc h v) : Elems P g w s d.list v := by
  cases h with
  | dat s' e =>
    simp only [argD] at ha
    split at ha
    · rename_i hb
      simp only [Option.some.injEq] at ha; subst ha
      have := Sh.beq_eq hb; subst this
      exact Elems.dat (loc := loc) H.ghost hr
    · cases ha
  | own o s' =>
    simp only [argD] at ha
    split at ha
    · rename_i hb
      split at ha
      · rename_i s2 xs ho
        split at ha
        · rename_i hb2
          simp only [Option.some.injEq] at ha; subst ha
          have := Sh.beq_eq hb; subst this
          have := Sh.beq_eq hb2; subst this
          exact Elems.own (H.obj o _ ho) hr
        · cases ha
      · rename_i s2 xs ho
        split at ha
        · rename_i hb2
          simp only [Option.some.injEq] at ha; subst ha
          have := Sh.beq_eq hb; subst this
          have := Sh.beq_eq hb2; subst this
          exact Elems.dat (loc := loc) H.ghost (froz_hrel H ho hr)
        · cases ha
      · cases ha
    · cases ha
  | cst v' =>
    simp only [argD] at ha
    split at ha
    · rename_i hn
      simp only [Option.some.injEq] at ha; subst ha
      rw [hr.cst, isNil_eq hn]
      exact Elems.nil
    · cases ha
  | _ => simp [argD] at ha

/-- A slice of one's own, cut: its block goes over to the part. -/
theorem own_take (H : HeapRel w0 hp g loc w) (hn : loc nx = none) {o : Nat} {s : Sh} {xs : List D} {v : Value} (ho : lk hp o = some (.grow s xs)) (hx : HRel g loc (.own o s) v) {k : Nat} (hk : k ≤ xs.length) :
    (∃ a, v = .slice a 0 0 ∧ xs = [] ∧ HeapRel w0 ((nx, .grow s (xs.take k)) :: (o, .dead) :: hp) g (loc.upd nx .nil) w ∧ HRel g (loc.upd nx .nil) (.own nx s) (.slice a 0 0)) ∨
    ∃ b cap, v = .slice (some ⟨b, 0, none⟩) xs.length cap ∧ xs.length ≤ cap ∧ ∀ c', k ≤ c' → c' ≤ cap → HeapRel w0 ((nx, .grow s (xs.take k)) :: (o, .dead) :: hp) g (loc.upd nx (.at b c' k (.arr k s))) w ∧ HRel g (loc.upd nx (.at b c' k (.arr k s))) (.own nx s) (.slice (some ⟨b, 0, none⟩) k c') := by
  obtain ⟨us, h1, h2⟩ := hx
  simp only [HC] at h1
  rcases H.obj o _ ho with ⟨k1, rfl⟩ | ⟨b, cap, T, cs, k1, k2, k3, k4, k5⟩
  · rcases h1 with ⟨_, a, rfl⟩ | ⟨b', cap', len', e1, _⟩
    · left
      refine ⟨a, h2, rfl, ?_, ?_⟩
      · rw [List.take_nil]
        exact (H.kill o).new hn (ExtAll.refl w) .nil (.grow s []) (by intro b hb; simp [Place.blk] at hb) (.inl ⟨Loc.upd_same, rfl⟩)
      · exact ⟨_, by simp only [HC]; exact .inl ⟨Loc.upd_same, a, rfl⟩, rfl⟩
    · rw [k1] at e1; cases e1
  · rcases h1 with ⟨e1, _⟩ | ⟨b', cap', len', e1, rfl⟩
    · rw [k1] at e1; cases e1
    · rw [k1] at e1
      simp only [Option.some.injEq, Place.at.injEq] at e1
      obtain ⟨rfl, rfl, rfl, _⟩ := e1
      right
      refine ⟨b, cap, h2, by omega, fun c' hc1 hc2 => ⟨?_, ?_⟩⟩
      · have hl : (xs.take k).length = k := by rw [List.length_take]; omega
        refine HeapRel.renew H hn ho rfl k1 rfl rfl rfl (fun k hk => rfl) ⟨rfl, rfl⟩ ?_
        right
        rw [hl]
        refine ⟨b, c', T, cs, Loc.upd_same, k2, Nat.le_trans (Nat.mul_le_mul_right _ hc2) k3, by omega, fun j hj => ?_⟩
        have e : (xs.take k).getD j .Z = xs.getD j .Z := by rw [List.getD_eq_getElem?_getD, List.getD_eq_getElem?_getD, List.getElem?_take, if_pos hj]
        rw [e]; exact k5 j (by omega)
      · exact ⟨_, by simp only [HC]; exact .inr ⟨_, _, _, Loc.upd_same, rfl⟩, rfl⟩
theorem appSub_nx {s s' : Sh} {hx hy : HV} {ef : Ef} (h : appSub s s' nx hp hx hy = some ef) : ef.nx = nx + 2 := by
  unfold appSub at h
  (repeat' split at h) <;> first | (simp only [Option.some.injEq] at h; subst h; rfl) | cases h
/-- A part of a slice of one's own is put behind its beginning. -/
theorem appSub_sound {s s' : Sh} {t t' ty : Nat} {e' : Nat} (hl : Lay P (.slice s) t) (hu' : P.underlying t' = some (.slice e')) (hds : s.data = true) (H : HeapRel w0 hp g loc w) (hn : loc nx = none) (hn1 : loc (nx + 1) = none)
    {hx hy : HV} {vx vy : Value} {ef : Ef} (h : appSub s s' nx hp hx hy = some ef) (hpre : holds ef.pre) (rx : HRel g loc hx vx) (ry : HRel g loc hy vy) :
    ∃ v w', (Builtin.append_ #[t, t'] ty #[vx, vy]).run P w = .ok v w' ∧ OpPost w0 hp nx g loc ef v w' := by
  unfold appSub at h
  split at h
  · rename_i o s1 a b o' s2 a' b'
    split at h
    · rename_i s0 xs ho
      split at h
      · rename_i hb
        simp only [Option.some.injEq] at h; subst h
        simp only [holds] at hpre
        obtain ⟨p1, p2, p3, p4⟩ := hpre
        simp only [Bool.and_eq_true] at hb
        obtain ⟨⟨e1, e2⟩, ⟨e3, e4⟩, e5, e6⟩ := hb
        have := Nat.eq_of_beq_eq_true e1; subst this
        have := Nat.eq_of_beq_eq_true e2; subst this
        have := Sh.beq_eq e3; subst this
        have := Sh.beq_eq e4; subst this
        have := Sh.beq_eq e5; subst this
        obtain ⟨us, c1, c2⟩ := rx
        obtain ⟨us', d1, d2⟩ := ry
        simp only [HC] at c1 d1
        have key : ∃ x1 : Place, HeapRel w0 ((nx, .grow s0 (xs.take b)) :: (o, .dead) :: hp) g (loc.upd nx x1) w ∧ HRel g (loc.upd nx x1) (.own nx s0) vx ∧ Elems P g w s0 ((xs.drop a').take (b' - a')) vy := by
          rcases H.obj o _ ho with ⟨k1, rfl⟩ | ⟨b0, cap, T, cs, k1, k2, k3, k4, k5⟩
          · rcases c1 with ⟨_, _, e8, p, rfl⟩ | ⟨b9, cap9, len9, e9, _⟩
            · rcases d1 with ⟨_, e10, e11, q, rfl⟩ | ⟨b9, cap9, len9, e9, _⟩
              · subst e8; subst e10; subst e11
                refine ⟨.nil, ?_, ?_, ?_⟩
                · rw [List.take_nil]
                  exact (H.kill o).new hn (ExtAll.refl w) .nil (.grow s0 []) (by intro b hb; simp [Place.blk] at hb) (.inl ⟨Loc.upd_same, rfl⟩)
                · exact ⟨[.slice p 0 0], by simp only [HC]; exact .inl ⟨Loc.upd_same, p, rfl⟩, c2⟩
                · have := Elems.own (P := P) (w := w) (hO := .inl ⟨k1, rfl⟩) (show HRel g loc (.own o s0) vy from ⟨[.slice q 0 0], by simp only [HC]; exact .inl ⟨k1, q, rfl⟩, d2⟩)
                  simpa using this
              · rw [k1] at e9; cases e9
            · rw [k1] at e9; cases e9
          · rcases c1 with ⟨e9, _⟩ | ⟨b9, cap9, len9, e9, _, _, rfl⟩
            · rw [k1] at e9; cases e9
            · rw [k1] at e9
              simp only [Option.some.injEq, Place.at.injEq] at e9
              obtain ⟨rfl, rfl, rfl, _⟩ := e9
              rcases d1 with ⟨e9, _⟩ | ⟨b9, cap9, len9, e9, _, _, rfl⟩
              · rw [k1] at e9; cases e9
              · rw [k1] at e9
                simp only [Option.some.injEq, Place.at.injEq] at e9
                obtain ⟨rfl, rfl, rfl, _⟩ := e9
                have hv0 : HRel g loc (.own o s0) (.slice (some ⟨b0, 0, none⟩) xs.length cap) := ⟨_, by simp only [HC]; exact .inr ⟨b0, cap, xs.length, k1, rfl⟩, rfl⟩
                have ev : vx = .slice (some ⟨b0, 0, none⟩) b cap := by
                  rw [c2]
                  simp only [HV.agg, mkV, List.headD_cons, Nat.zero_mul, ite_self, Nat.sub_zero]
                have ey : vy = .slice (if cap = a' then some ⟨b0, 0, none⟩ else some ⟨b0, a' * s0.size, none⟩) (b' - a') (cap - a') := by
                  rw [d2]; rfl
                have hlen : ((xs.drop a').take (b' - a')).length = b' - a' := by rw [List.length_take, List.length_drop]; omega
                have hmul : a' * s0.size + (b' - a') * s0.size = b' * s0.size := by rw [← Nat.add_mul]; congr 1; omega
                have hle : b' * s0.size ≤ cs.size := Nat.le_trans (Nat.mul_le_mul_right _ (by omega)) k3
                have hE : Elems P g w s0 ((xs.drop a').take (b' - a')) vy := by
                  refine ⟨if cap = a' then some ⟨b0, 0, none⟩ else some ⟨b0, a' * s0.size, none⟩, cap - a', ?_, (chunk cs.toList (a' * s0.size) ((b' - a') * s0.size)).toArray, fun w' hw' => ?_, ?_, ?_⟩
                  · rw [ey, hlen]
                  · rw [hlen, ey]
                    by_cases hc : cap = a'
                    · have h0 : b' - a' = 0 := by omega
                      rw [if_pos hc, h0, Nat.zero_mul]
                      have := run_firstCells (P := P) (size := s0.size) (n := 0) (cap := cap - a') (b := b0) (off := 0) (cs := cs) (T := T) (fr := (0, 0)) (w := w') (by rw [hw']; exact k2) (by omega)
                      simpa [chunk] using this
                    · rw [if_neg hc]
                      exact run_firstCells (by rw [hw']; exact k2) (by omega)
                  · rw [hlen]
                    simp [chunk_length _ _ _ (show a' * s0.size + (b' - a') * s0.size ≤ cs.toList.length by simpa [hmul] using hle)]
                  · intro j hj
                    rw [hlen] at hj
                    have hj2 : j * s0.size + s0.size ≤ (b' - a') * s0.size := by
                      calc j * s0.size + s0.size = (j + 1) * s0.size := by rw [Nat.add_mul, Nat.one_mul]
                        _ ≤ _ := Nat.mul_le_mul_right _ hj
                    rw [chunk_chunk _ _ _ _ _ hj2]
                    have e : ((xs.drop a').take (b' - a')).getD j .Z = xs.getD (a' + j) .Z := by
                      rw [List.getD_eq_getElem?_getD, List.getD_eq_getElem?_getD, List.getElem?_take, if_pos hj, List.getElem?_drop]
                    rw [e, ← Nat.add_mul]
                    exact k5 (a' + j) (by omega)
                rcases own_take H hn ho hv0 p1 with ⟨q, hq, _, q1, q2⟩ | ⟨b1, cap1, hq, _, hq3⟩
                · simp only [Value.slice.injEq] at hq
                  obtain ⟨hq1, hq2, hq3⟩ := hq
                  refine ⟨_, q1, ?_, hE⟩
                  have hb0 : b = 0 := by omega
                  rw [ev, hb0, hq3, hq1]; exact q2
                · simp only [Value.slice.injEq, Option.some.injEq, Addr.mk.injEq] at hq
                  obtain ⟨⟨rfl, _⟩, _, rfl⟩ := hq
                  obtain ⟨q1, q2⟩ := hq3 cap (by omega) (Nat.le_refl _)
                  exact ⟨_, q1, by rw [ev]; exact q2, hE⟩
        obtain ⟨x1, H1, hv1, hyE⟩ := key
        have hn2 : (loc.upd nx x1) (nx + 1) = none := by rw [Loc.upd_other (by omega)]; exact hn1
        have hlens : (xs.take b).length + ((xs.drop a').take (b' - a')).length ≤ 1073741824 := by
          rw [List.length_take, List.length_take, List.length_drop]; omega
        obtain ⟨v', w', x', h1, h2, h3⟩ := append_run (ty := ty) hl hu' hds (tys := #[t, t']) rfl rfl H1 (nx := nx + 1) hn2 (lk_same _ _ _) hv1 hyE hlens
        refine ⟨v', w', h1, g, _, Ghost.le_refl g, Loc.le_trans (Loc.le_upd hn) (Loc.le_upd hn2), fun o ho => by simp only at ho; rw [Loc.upd_other (by omega), Loc.upd_other (by omega)], ?_, h3⟩
        refine HeapRel.congr (fun o => ?_) h2
        simp only [List.cons_append, List.nil_append, lk_cons]
        split
        · rfl
        · split
          · rfl
          · rfl
      · cases h
    · cases h
  · cases h

theorem s_append (hC : CtxOK P c) {ρ : Operand → HV} {ρv : Operand → Value} (hρ : ∀ x, HRel g loc (ρ x) (ρv x)) (H : HeapRel w0 hp g loc w) (hn : loc nx = none) (hn1 : loc (nx + 1) = none) {args : Array Operand} {tys : Array TypeId} {ty : Nat} {ef : Ef}
    (h : vop0 c nx ρ hp ty (.call { callee := .builtin .append, args, argTypes := tys }) = some ef) (hpre : holds ef.pre) : ∃ v w', (Builtin.append_ tys ty (args.map ρv)).run P w = .ok v w' ∧ OpPost w0 hp nx g loc ef v w' := by
  simp only [vop0] at h
  split at h
  · rename_i x y t t' hargs htys
    have ha : args = #[x, y] := by rw [← Array.toList_inj]; exact hargs
    have ht : tys = #[t, t'] := by rw [← Array.toList_inj]; exact htys
    subst ha; subst ht
    have hx := hρ x
    have hy := hρ y
    split at h
    · rename_i s s' hty hty'
      have hl := (hC.tab _ _ hty).1
      have hd := (hC.tab _ _ hty).2
      have hl' := (hC.tab _ _ hty').1
      simp only [Lay] at hl'
      obtain ⟨_, e', hu', _⟩ := hl'
      have hds : s.data = true := by simpa [Sh.data] using hd
      split at h
      · obtain ⟨v, w', h1, h2⟩ := appSub_sound (ty := ty) hl hu' hds H hn hn1 h hpre hx hy
        exact ⟨v, w', by simpa using h1, h2⟩
      split at h
      · rename_i e hb he
        have hyE := elems_of (P := P) H he hy
        split at h
        · rename_i o s1 hrx
          rw [hrx] at hx
          split at h
          · rename_i s2 xs hb1 ho
            split at h
            · rename_i hb2
              have := Sh.beq_eq hb1; subst this
              have := Sh.beq_eq hb2; subst this
              simp only [Option.some.injEq] at h; subst h
              simp only [holds] at hpre
              obtain ⟨v', w', x', h1, h2, h3⟩ := append_run (ty := ty) hl hu' hds (tys := #[t, t']) rfl rfl H hn ho hx hyE hpre
              exact ⟨v', w', by simpa using h1, g, _, Ghost.le_refl g, Loc.le_upd hn, fun o ho => Loc.upd_other (by simp only at ho; omega), h2, h3⟩
            · cases h
          · cases h
        · rename_i v0 hrx
          rw [hrx] at hx
          split at h
          · rename_i hnl
            simp only [Option.some.injEq] at h; subst h
            simp only [holds] at hpre
            have H1 : HeapRel w0 ((nx, .grow s []) :: hp) g (loc.upd nx .nil) w := H.new hn (ExtAll.refl w) .nil (.grow s []) (by intro b hb; simp [Place.blk] at hb) (.inl ⟨Loc.upd_same, rfl⟩)
            have hn2 : (loc.upd nx .nil) (nx + 1) = none := by rw [Loc.upd_other (by omega)]; exact hn1
            have hv : HRel g (loc.upd nx .nil) (.own nx s) (ρv x) := by
              rw [hx.cst, isNil_eq hnl]
              show ∃ us, HC g _ (.own nx s) us ∧ _ = mkV _ us
              exact ⟨[.slice none 0 0], by simp only [HC]; exact .inl ⟨Loc.upd_same, none, rfl⟩, rfl⟩
            obtain ⟨v', w', x', h1, h2, h3⟩ := append_run (ty := ty) hl hu' hds (tys := #[t, t']) rfl rfl H1 (nx := nx + 1) hn2 (lk_same _ _ _) hv hyE (by simpa using hpre)
            refine ⟨v', w', by simpa using h1, g, _, Ghost.le_refl g, Loc.le_trans (Loc.le_upd hn) (Loc.le_upd hn2), fun o ho => by simp only at ho; rw [Loc.upd_other (by omega), Loc.upd_other (by omega)], ?_, h3⟩
            refine HeapRel.congr (fun o => ?_) h2
            simp only [List.cons_append, List.nil_append, lk_cons]
            split
            · rfl
            · split
              · rfl
              · rfl
          · cases h
        · cases h
      · cases h
    · cases h
  · cases h

end
end Go.Vm

noncomputable section
namespace Go.Vm
open Go
set_option linter.unusedSimpArgs false

section
variable {P : Program} {c : Ctx} {g : Ghost} {loc : Loc} {w0 : Base} {w : World} {hp : Hp} {nx : Nat}

theorem run_sliceBound {v : Value} {k : IntKind} {i : Int} (hv : v = .int k i) {y : Nat} (h0 : 0 ≤ i) (h1 : i ≤ y) (code : BoundsCode) (w : World) : (Instr.sliceBound v y code).run P w = .ok i.toNat w := by
  subst hv
  simp only [Instr.sliceBound, asIntOf, Sem.run_bind, Sem.run_pure, Result.andThen_ok]
  rw [if_pos ⟨h0, h1⟩]
  simp only [Sem.run_pure]

theorem run_sliceBounds {isS : Bool} {ρ : Operand → HV} {ρv : Operand → Value} (hρ : ∀ x, HRel g loc (ρ x) (ρv x)) {lo hi : Option Operand} {n cap : Nat} {a b : Int} (ha : bnd ρ lo 0 = some a) (hb : bnd ρ hi n = some b) (h0 : 0 ≤ a) (h1 : a ≤ b) (h2 : b ≤ n) (hc : n ≤ cap) (w : World) :
    (Instr.sliceBounds isS n cap (lo.map ρv) (hi.map ρv) none).run P w = .ok (a.toNat, b.toNat, cap) w := by
  have hval : ∀ {y : Operand} {m i : Int}, bnd ρ (some y) m = some i → ∃ k, ρv y = .int k i := by
    intro y m i h
    simp only [bnd] at h
    have hy := hρ y
    split at h
    · rename_i k d hr
      rw [hr] at hy
      simp only [Option.some.injEq] at h; subst h
      exact ⟨k, hy.int.1⟩
    · cases h
  have key : ∀ y : Nat, b.toNat = y → (match (lo.map ρv) with
      | some v => (Instr.sliceBound v y .sliceB : Sem Nat)
      | none => pure 0).run P w = .ok a.toNat w := by
    intro y hy
    cases lo with
    | none => simp only [bnd, Option.some.injEq] at ha; subst ha; rfl
    | some l =>
      obtain ⟨k, hk⟩ := hval ha
      simp only [Option.map_some]
      exact run_sliceBound hk h0 (by omega) _ w
  have hl := key b.toNat rfl
  cases hi with
  | none =>
    simp only [bnd, Option.some.injEq] at hb
    have e : b.toNat = n := by omega
    rw [e] at hl ⊢
    cases lo with
    | none =>
      simp only [bnd, Option.some.injEq] at ha; subst ha
      simp [Instr.sliceBounds]
    | some l =>
      simp only [Option.map_some] at hl
      simp [Instr.sliceBounds, hl]
  | some h =>
    obtain ⟨k, hk⟩ := hval hb
    have hh := run_sliceBound (P := P) hk (y := cap) (by omega) (by omega) (if isS then .sliceAcap else .sliceAlen) w
    cases lo with
    | none =>
      simp only [bnd, Option.some.injEq] at ha; subst ha
      simp [Instr.sliceBounds, hh]
    | some l =>
      simp only [Option.map_some] at hl
      simp [Instr.sliceBounds, hh, hl]

theorem rel_slice {s : Sh} {d : D} {a0 : Option Addr} {cap : Nat} {a b : Int} (h : Rel g (.slice s) d [.slice a0 d.list.length cap]) (h0 : 0 ≤ a) (h1 : a ≤ b) (h2 : b ≤ d.list.length) :
    d.list.length ≤ cap ∧ Rel g (.slice s) (.L ((d.list.drop a.toNat).take (b - a).toNat)) [.slice (if cap = a.toNat then a0 else a0.map (·.add (a.toNat * s.size))) (b.toNat - a.toNat) (cap - a.toNat)] := by
  simp only [Rel] at h
  obtain ⟨a1, cap1, e1, h⟩ := h
  simp only [List.cons.injEq, Value.slice.injEq, and_true, true_and] at e1
  obtain ⟨rfl, rfl⟩ := e1
  have e0 : ∀ xs : List D, (D.L xs).list = xs := fun _ => rfl
  have hl : ((d.list.drop a.toNat).take (b - a).toNat).length = b.toNat - a.toNat := by
    rw [List.length_take, List.length_drop]; omega
  have hget : ∀ j, j < b.toNat - a.toNat → ((d.list.drop a.toNat).take (b - a).toNat).getD j .Z = d.list.getD (a.toNat + j) .Z := by
    intro j hj
    rw [List.getD_eq_getElem?_getD, List.getD_eq_getElem?_getD, List.getElem?_take, if_pos (by omega), List.getElem?_drop]
  cases a0 with
  | none =>
    obtain ⟨h3, rfl⟩ := h
    have hz : d.list.length = 0 := by rw [h3]; rfl
    refine ⟨by omega, ?_⟩
    simp only [Rel, e0]
    refine ⟨none, 0, ?_, List.length_eq_zero_iff.1 (by rw [hl]; omega), rfl⟩
    rw [hl]
    simp
  | some a0 =>
    obtain ⟨h3, h⟩ := h
    have h3' : d.list.length ≤ cap ∧ d.list.length ≤ 9223372036854775807 := by clear h; omega
    clear h3
    by_cases hc : cap = a.toNat
    · clear h
      refine ⟨h3'.1, ?_⟩
      rw [if_pos hc]
      simp only [Rel, e0]
      exact ⟨some a0, cap - a.toNat, by rw [hl], by rw [hl]; omega, fun h => by omega⟩
    · have hpos : 0 < cap := by clear h; omega
      have hh := h hpos
      clear h
      obtain ⟨h4, cs, T, fr, h5, h6, h7⟩ := hh
      refine ⟨h3'.1, ?_⟩
      obtain ⟨b0, off0, spot0⟩ := a0
      simp only at h4 h5 h6 h7
      subst h4
      rw [if_neg hc]
      simp only [Rel, e0, Option.map_some, addr_add]
      have hm : a.toNat * s.size + (cap - a.toNat) * s.size = cap * s.size := by rw [← Nat.add_mul]; congr 1; omega
      refine ⟨some ⟨b0, off0 + a.toNat * s.size, none⟩, cap - a.toNat, by rw [hl], by rw [hl]; omega, fun _ => ⟨rfl, cs, T, fr, h5, ?_, fun j hj => ?_⟩⟩
      · show off0 + a.toNat * s.size + (cap - a.toNat) * s.size ≤ cs.size
        omega
      · rw [hl] at hj
        have hj2 : a.toNat + j < d.list.length := by omega
        rw [hget j hj]
        have := h7 (a.toNat + j) hj2
        rw [Nat.add_mul] at this
        show Rel g s _ (chunk cs.toList (off0 + a.toNat * s.size + j * s.size) s.size)
        rw [Nat.add_assoc]; exact this

/-- What a part of a slice of one's own is. -/
theorem own_sub (H : HeapRel w0 hp g loc w) {o : Nat} {s : Sh} {xs : List D} {v : Value} (ho : lk hp o = some (.grow s xs)) (hx : HRel g loc (.own o s) v) {i j : Nat} (hij : i ≤ j) (hj : j ≤ xs.length) :
    ∃ a cap, v = .slice a xs.length cap ∧ xs.length ≤ cap ∧ HRel g loc (.sub o s i j) (.slice (if cap = i then a else a.map (·.add (i * s.size))) (j - i) (cap - i)) := by
  obtain ⟨us, h1, h2⟩ := hx
  simp only [HC] at h1
  rcases H.obj o _ ho with ⟨k1, rfl⟩ | ⟨b, cap, T, cs, k1, k2, k3, k4, k5⟩
  · rcases h1 with ⟨_, a, rfl⟩ | ⟨b', cap', len', e1, _⟩
    · have e1 : j = 0 := by simpa using hj
      have e2 : i = 0 := by omega
      subst e1; subst e2
      refine ⟨a, 0, h2, Nat.le_refl _, ?_⟩
      exact ⟨[.slice a 0 0], by simp only [HC]; exact .inl ⟨k1, trivial, trivial, a, rfl⟩, rfl⟩
    · rw [k1] at e1; cases e1
  · rcases h1 with ⟨e1, _⟩ | ⟨b', cap', len', e1, rfl⟩
    · rw [k1] at e1; cases e1
    · rw [k1] at e1
      simp only [Option.some.injEq, Place.at.injEq] at e1
      obtain ⟨rfl, rfl, rfl, _⟩ := e1
      refine ⟨_, cap, h2, by omega, ?_⟩
      refine ⟨_, by simp only [HC]; exact .inr ⟨b, cap, _, k1, hij, hj, rfl⟩, ?_⟩
      simp only [HV.agg, mkV, List.headD_cons, Option.map_some, addr_add, Nat.zero_add]

/-- A block more, for reading. -/
theorem HeapRel.addGhost {w' : World} {b : Nat} {x : Obj} (H : HeapRel w0 hp g loc w) (he : ExtAll w w') (hb : w.heap.size ≤ b) (hx : w'.heap[b]? = some x) :
    g.le (fun b' => if b' = b then some x else g b') ∧ HeapRel w0 hp (fun b' => if b' = b then some x else g b') loc w' := by
  have hle : g.le (fun b' => if b' = b then some x else g b') := by
    intro b' y hy
    have h1 := H.ghost b' y hy
    have h2 : b' < w.heap.size := (Array.getElem?_eq_some_iff.1 h1).1
    show (if b' = b then some x else g b') = some y
    rw [if_neg (by omega)]; exact hy
  refine ⟨hle, ?_, H.inj, ?_, ?_, H.low, ?_, Nat.le_trans H.size he.1, ?_, ⟨he.2.2.1.trans H.still.1, he.2.2.2.trans H.still.2⟩⟩
  · intro o vo ho
    exact (H.obj o vo ho).mono hle (Loc.le_refl _) fun _ _ _ _ _ hy => he.get hy
  · intro b' y hy
    by_cases e : b' = b
    · subst e
      have hy : (if b' = b' then some x else g b') = some y := hy
      rw [if_pos rfl] at hy
      simp only [Option.some.injEq] at hy; subst hy; exact hx
    · have hy : (if b' = b then some x else g b') = some y := hy
      rw [if_neg e] at hy
      exact he.get (H.ghost b' y hy)
  · intro o vo b' y h1 h2 h3 h4
    have h5 := (H.obj o vo h1).blk_lt h2 h3 h4
    show (if b' = b then some x else g b') = none
    rw [if_neg (by omega)]
    exact H.sep o vo b' y h1 h2 h3 h4
  · intro b' h1 h2
    rw [he.2.1 b' (Nat.lt_of_lt_of_le h1 H.size)]
    exact H.ext b' h1 h2
  · intro b' y hy h1 h2
    have hy : (if b' = b then some x else g b') = some y := hy
    rw [if_neg (by have := H.size; omega)] at hy
    exact H.old b' y hy h1 h2

theorem strL_length (s : ByteArray) : (strL s).length = s.size := by
  unfold strL
  rw [List.length_map]; exact Array.length_toList
theorem bytes_post {s : ByteArray} {e : TypeId} (H : HeapRel w0 hp g loc w) (hsz : s.size ≤ 9223372036854775807) :
    OpPost w0 hp nx g loc ⟨.dat (.slice (.int .u8)) (.L (strL s)), [], nx, none⟩ (.slice (some ⟨w.heap.size, 0, none⟩) s.size (grownCap w s.size 0 e))
      (w.drew.alloc (.cells (bytesRow s (grownCap w s.size 0 e)) e ((bytesRow s (grownCap w s.size 0 e)).size, (bytesRow s (grownCap w s.size 0 e)).size + 1))) := by
  generalize hcap : grownCap w s.size 0 e = cap
  have hge : s.size ≤ cap := by rw [← hcap]; simp only [grownCap, Question.cut]; omega
  generalize hfr : ((bytesRow s cap).size, (bytesRow s cap).size + 1) = fr
  obtain ⟨h1, h2⟩ := H.drew.addGhost (ExtAll.alloc _ (.cells (bytesRow s cap) e fr)) (Nat.le_refl _) (heap_alloc_new _ _)
  refine ⟨_, loc, h1, Loc.le_refl loc, fun _ _ => rfl, h2, HRel.dat_iff.2 ⟨[.slice (some ⟨w.heap.size, 0, none⟩) s.size cap], ?_, rfl⟩⟩
  simp only [Rel, D.list]
  refine ⟨some ⟨w.heap.size, 0, none⟩, cap, by rw [strL_length], ?_⟩
  simp only
  rw [strL_length]
  refine ⟨by omega, fun _ => ⟨by first | rfl | trivial, bytesRow s cap, e, fr, if_pos rfl, ?_, fun j hj => ?_⟩⟩
  · have : (bytesRow s cap).size = cap := by
      simp only [bytesRow, Array.size_append, Array.size_map, Array.size_replicate]
      have : s.data.size = s.size := rfl
      omega
    have hs1 : Sh.size (.int .u8) = 1 := by simp [Sh.size]
    rw [this, hs1]; omega
  · have hj' : j < s.data.toList.length := by
      have : s.data.toList.length = s.size := Array.length_toList
      omega
    have e1 : (strL s).getD j .Z = .I ((s.data.toList[j]).toNat : Int) := by
      simp only [strL, List.getD_eq_getElem?_getD, List.getElem?_map, List.getElem?_eq_getElem hj', Option.map_some, Option.getD_some]
    have e2 : chunk (bytesRow s cap).toList (0 + j * Sh.size (.int .u8)) (Sh.size (.int .u8)) = [.int .u8 ((s.data.toList[j]).toNat : Int)] := by
      have e3 : (bytesRow s cap).toList = (s.data.toList.map fun b => Value.int .u8 b.toNat) ++ List.replicate (cap - s.size) (.int .u8 0) := by
        simp [bytesRow]
      rw [e3]
      simp only [Sh.size, chunk]
      have e4 : 0 + j * 1 = j := by omega
      rw [e4, List.drop_append_of_le_length (by simp only [List.length_map]; omega), List.drop_eq_getElem_cons (by simpa using hj')]
      simp
    rw [e1, e2]
    simp only [Rel, D.int]
    have hlt := (s.data.toList[j]).toNat_lt
    exact ⟨trivial, (by show (0 : Int) ≤ _; omega), (by show _ ≤ (255 : Int); omega)⟩

theorem string_run {xs : List D} {src dst e : TypeId} {v : Value} {r : ByteArray} (hE : Elems P g w (.int .u8) xs v) (hs : P.underlying src = some (.slice e)) (he : P.underlying e = some (.int .u8)) (hd : P.underlying dst = some .string)
    (hr : r = strD xs) : (convert src dst v).run P w = .ok (.string r) w := by
  subst hr
  obtain ⟨a, cap, rfl, cells, h1, h2, h3⟩ := hE
  have h1 := h1 w rfl
  simp only [Sh.size, Nat.mul_one] at h2 h3
  rw [run_convert_bytes_string w src dst e a _ cap hs he hd]
  cases a with
  | none =>
    have h4 : cells = #[] := by
      rw [run_firstCells_none] at h1
      simp only [Result.ok.injEq] at h1
      exact h1.1.symm
    have h5 : xs = [] := List.length_eq_zero_iff.1 (by rw [← h2, h4]; rfl)
    subst h5
    simp [Conv.bytesToString, strD]
    rfl
  | some a =>
    have h4 : (loadCells a xs.length).run P w = .ok cells w := by
      have h5 := h1
      simp only [Builtin.firstCells, Sh.size, Nat.mul_one] at h5
      exact h5
    have h5 : cells = ((xs.map D.int).map (Value.int .u8)).toArray := by
      rw [← Array.toList_inj]
      refine List.ext_getElem? fun j => ?_
      by_cases hj : j < xs.length
      · have h6 := h3 j hj
        simp only [Rel] at h6
        have h7 : cells.toList[j]? = some (.int .u8 (xs.getD j .Z).int) := by
          have h8 := congrArg List.head? h6.1
          simp only [chunk, List.head?_cons] at h8
          rw [← h8, List.head?_take]
          simp
        rw [h7]
        simp [List.getD_eq_getElem?_getD, List.getElem?_eq_getElem hj]
      · rw [List.getElem?_eq_none (by simp [h2]; omega), List.getElem?_eq_none (by simp; omega)]
    rw [h5] at h4
    rw [run_bytesToString w a xs.length cap _ h4, foldl_push_bytes]
    simp [strD, ByteArray.empty, ByteArray.emptyWithCapacity, List.map_map]
    rfl

theorem s_convert (hC : CtxOK P c) {ρ : Operand → HV} {ρv : Operand → Value} (hρ : ∀ x, HRel g loc (ρ x) (ρv x)) (H : HeapRel w0 hp g loc w) {t t' : Nat} {x : Operand} {ty : Nat} {ef : Ef}
    (h : vop0 c nx ρ hp ty (.convert t t' x) = some ef) (hpre : holds ef.pre) : ∃ v w', (convert t t' (ρv x)).run P w = .ok v w' ∧ OpPost w0 hp nx g loc ef v w' := by
  simp only [vop0] at h
  have hx := hρ x
  split at h
  · rename_i k0 k' hty0 hty
    split at h
    · rename_i k d hrx
      rw [hrx] at hx
      simp only [Option.some.injEq] at h; subst h
      have hl := (hC.tab _ _ hty).1
      have hl0 := (hC.tab _ _ hty0).1
      simp only [Lay] at hl hl0
      have hds := hl0.2
      rw [hx.int.1]
      refine ⟨.int k' (k'.wrap d.int), w, ?_, OpPost.pure H (HRel.int_mk (wrap_in _ _).1 (wrap_in _ _).2)⟩
      simp [convert, run_underlying hds, run_underlying hl.2, Conv.intToInt]
    · cases h
  · rename_i hty0 hty
    split at h
    · rename_i d hrx
      rw [hrx] at hx
      simp only [Option.some.injEq] at h; subst h
      have hl := (hC.tab _ _ hty).1
      have hl0 := (hC.tab _ _ hty0).1
      simp only [Lay] at hl hl0
      obtain ⟨_, e, hu, _, he⟩ := hl
      obtain ⟨us, h1, h2⟩ := HRel.dat_iff.1 hx
      simp only [Rel] at h1
      obtain ⟨h1, hsz⟩ := h1
      subst h1
      simp only [Sh.agg, mkV, List.headD_cons] at h2
      rw [h2]
      refine ⟨_, _, run_bytes_of_string w t t' e d.str hl0.2 hu he, ?_⟩
      exact bytes_post H hsz
    · cases h
  · rename_i hty0 hty
    split at h
    · rename_i e' he'
      simp only [Option.some.injEq] at h; subst h
      simp only [holds] at hpre
      have hl := (hC.tab _ _ hty).1
      have hl0 := (hC.tab _ _ hty0).1
      simp only [Lay] at hl hl0
      obtain ⟨_, e, hu, _, he⟩ := hl0
      have hE := elems_of (P := P) H he' hx
      refine ⟨_, w, string_run hE hu he hl.2 rfl, OpPost.pure H (HRel.dat_iff.2 ⟨[.string (strD e'.list)], ?_, rfl⟩)⟩
      simp only [Rel, D.str]
      exact ⟨trivial, by simpa [strD, ByteArray.size] using hpre⟩
    · cases h
  · cases h

theorem s_slice (hC : CtxOK P c) {ρ : Operand → HV} {ρv : Operand → Value} (hρ : ∀ x, HRel g loc (ρ x) (ρv x)) (H : HeapRel w0 hp g loc w) (hn : loc nx = none) {t : Nat} {x : Operand} {lo hi mx : Option Operand} {ty : Nat} {ef : Ef}
    (h : vop0 c nx ρ hp ty (.slice t x lo hi mx) = some ef) (hpre : holds ef.pre) : ∃ v w', (Instr.sliceAt t (ρv x) (lo.map ρv) (hi.map ρv) (mx.map ρv)).run P w = .ok v w' ∧ OpPost w0 hp nx g loc ef v w' := by
  simp only [vop0] at h
  have hx := hρ x
  split at h
  · rename_i s1 hty
    obtain ⟨hl, hd⟩ := hC.tab _ _ hty
    simp only [Lay] at hl
    obtain ⟨_, e, hu, hle⟩ := hl
    split at h
    · split at h
      · rename_i s d hrx
        rw [hrx] at hx
        split at h
        · rename_i a b hb ha hbb
          have := Sh.beq_eq hb; subst this
          simp only [Option.some.injEq] at h; subst h
          simp only [holds] at hpre
          obtain ⟨p0, p1, p2⟩ := hpre
          obtain ⟨us, h1, h2⟩ := HRel.dat_iff.1 hx
          have h1' := h1
          simp only [Rel] at h1
          obtain ⟨a0, cap, rfl, _⟩ := h1
          obtain ⟨r1, r2⟩ := rel_slice h1' p0 p1 p2
          have hsb := run_sliceBounds (isS := true) (P := P) hρ ha hbb p0 p1 p2 r1 w
          have hv : ρv x = .slice a0 d.list.length cap := by rw [h2]; rfl
          refine ⟨_, w, ?_, OpPost.pure H (HRel.dat_iff.2 ⟨_, r2, rfl⟩)⟩
          rw [hv]
          simp only [Instr.sliceAt, Instr.slice, Sem.run_bind, run_underlying hu, Result.andThen_ok, Option.map_none, hsb, run_size hle.plain, Sem.run_pure]
          rfl
        · cases h
      · rename_i o s hrx
        rw [hrx] at hx
        have run : ∀ (xs : List D) (a b : Int) (g' : Ghost), Sh.beq s s1 = true → HRel g' loc (.dat (.slice s) (.L xs)) (ρv x) → bnd ρ lo 0 = some a → bnd ρ hi xs.length = some b → 0 ≤ a → a ≤ b → b ≤ xs.length →
            ∃ v, (Instr.sliceAt t (ρv x) (lo.map ρv) (hi.map ρv) none).run P w = .ok v w ∧ HRel g' loc (.dat (.slice s1) (.L ((xs.drop a.toNat).take (b - a).toNat))) v := by
          intro xs a b g' hb hxd ha hbb p0 p1 p2
          have := Sh.beq_eq hb; subst this
          obtain ⟨us, h1, h2⟩ := HRel.dat_iff.1 hxd
          have h1' := h1
          simp only [Rel, D.list] at h1
          obtain ⟨a0, cap, rfl, _⟩ := h1
          obtain ⟨r1, r2⟩ := rel_slice (d := .L xs) h1' p0 p1 p2
          simp only [D.list] at r1 r2
          have hsb := run_sliceBounds (isS := true) (P := P) hρ ha hbb p0 p1 p2 r1 w
          have hv : ρv x = .slice a0 xs.length cap := by rw [h2]; rfl
          refine ⟨_, ?_, HRel.dat_iff.2 ⟨_, r2, rfl⟩⟩
          rw [hv]
          simp only [Instr.sliceAt, Instr.slice, Sem.run_bind, run_underlying hu, Result.andThen_ok, Option.map_none, hsb, run_size hle.plain, Sem.run_pure]
          rfl
        split at h
        · rename_i s0 xs ho
          split at h
          · rename_i a b hb ha hbb
            simp only [Bool.and_eq_true] at hb
            simp only [Option.some.injEq] at h; subst h
            simp only [holds] at hpre
            obtain ⟨p0, p1, p2⟩ := hpre
            have e1 := Sh.beq_eq hb.1
            have e2 := Sh.beq_eq hb.2
            obtain ⟨v, k1, k2⟩ := run xs a b g hb.1 (froz_hrel H (by rw [e1, ← e2]; exact ho) hx) ha hbb p0 p1 p2
            exact ⟨v, w, k1, OpPost.pure H k2⟩
          · cases h
        · rename_i s0 xs ho
          split at h
          · rename_i a b hb ha hbb
            simp only [Bool.and_eq_true] at hb
            have e1 := Sh.beq_eq hb.1
            have e2 := Sh.beq_eq hb.2
            have runv : ∀ (a0 : Option Addr) (cap : Nat), ρv x = .slice a0 xs.length cap → xs.length ≤ cap → 0 ≤ a → a ≤ b → b ≤ xs.length →
                (Instr.sliceAt t (ρv x) (lo.map ρv) (hi.map ρv) none).run P w = .ok (.slice (if cap = a.toNat then a0 else a0.map (·.add (a.toNat * s1.size))) (b.toNat - a.toNat) (cap - a.toNat)) w := by
              intro a0 cap hv hc p0 p1 p2
              have hsb := run_sliceBounds (isS := true) (P := P) hρ ha hbb p0 p1 p2 hc w
              rw [hv]
              simp only [Instr.sliceAt, Instr.slice, Sem.run_bind, run_underlying hu, Result.andThen_ok, Option.map_none, hsb, run_size hle.plain, Sem.run_pure]
            split at h
            · rename_i all hfl
              split at h
              · rename_i hlo
                simp only [Option.some.injEq] at h; subst h
                simp only [holds] at hpre
                obtain ⟨p0, p1, p2⟩ := hpre
                have ha0 : a = 0 := by
                  cases lo with
                  | none => simp only [bnd, Option.some.injEq] at ha; exact ha.symm
                  | some y => simp [isSome] at hlo
                subst ha0
                rw [e1] at hx
                rcases own_take H hn (by rw [← e2]; exact ho) hx (k := b.toNat) (by omega) with ⟨a0, v1, v2, v3, v4⟩ | ⟨b0, cap, v1, v2, v3⟩
                · have := runv a0 0 (by rw [v1, v2]; rfl) (by rw [v2]; simp) p0 p1 p2
                  refine ⟨_, w, this, g, _, Ghost.le_refl g, Loc.le_upd hn, fun o ho => Loc.upd_other (by simp only at ho; omega), v3, ?_⟩
                  have hb0 : b.toNat = 0 := by rw [v2] at p2; simp at p2; omega
                  rw [hb0]; exact v4
                · have := runv _ cap v1 v2 p0 p1 p2
                  obtain ⟨w1, w2⟩ := v3 cap (by omega) (Nat.le_refl _)
                  refine ⟨_, w, this, g, _, Ghost.le_refl g, Loc.le_upd hn, fun o ho => Loc.upd_other (by simp only at ho; omega), w1, ?_⟩
                  have e : (Value.slice (if cap = (0 : Int).toNat then some ⟨b0, 0, none⟩ else (some (⟨b0, 0, none⟩ : Addr)).map (·.add ((0 : Int).toNat * s1.size))) (b.toNat - (0 : Int).toNat) (cap - (0 : Int).toNat)) = .slice (some ⟨b0, 0, none⟩) b.toNat cap := by
                    simp [addr_add]
                  rw [e]; exact w2
              · simp only [Option.some.injEq] at h; subst h
                simp only [holds] at hpre
                obtain ⟨p0, p1, p2⟩ := hpre
                rw [e1] at hx
                obtain ⟨a0, cap, v1, v2, v3⟩ := own_sub H (by rw [← e2]; exact ho) hx (i := a.toNat) (j := b.toNat) (by omega) (by omega)
                exact ⟨_, w, runv a0 cap v1 v2 p0 p1 p2, OpPost.pure H v3⟩
            simp only [Option.some.injEq] at h; subst h
            simp only [holds] at hpre
            obtain ⟨p0, p1, p2⟩ := hpre
            obtain ⟨H1, m1, _⟩ := H.freeze ho
            have hx' : HRel (frzG g loc w o) loc (.own o s) (ρv x) := hx.mono m1 (Loc.le_refl _)
            obtain ⟨v, k1, k2⟩ := run xs a b _ hb.1 (froz_hrel H1 (by rw [lk_same]; rw [e1, ← e2]) hx') ha hbb p0 p1 p2
            exact ⟨v, w, k1, frzG g loc w o, loc, m1, Loc.le_refl _, fun _ _ => rfl, H1, k2⟩
          · cases h
        · cases h
      · cases h
    · rename_i m
      split at h
      · rename_i hh
        split at h
        rotate_left
        · split at h
          · rename_i k1 a k2 b o s hrh hrm hrx
            split at h
            · rename_i s0 xs ho
              split at h
              · rename_i hb
                simp only [Bool.and_eq_true] at hb
                have e1 := Sh.beq_eq hb.1
                have e2 := Sh.beq_eq hb.2
                simp only [Option.some.injEq] at h; subst h
                simp only [holds] at hpre
                obtain ⟨p0, p1, p2⟩ := hpre
                have hh1 := hρ hh
                have hm1 := hρ m
                rw [hrh] at hh1
                rw [hrm] at hm1
                rw [hrx, e1] at hx
                have runv : ∀ (a0 : Option Addr) (cap : Nat), ρv x = .slice a0 xs.length cap → xs.length ≤ cap →
                    (Instr.sliceAt t (ρv x) ((none : Option Operand).map ρv) ((some hh).map ρv) ((some m).map ρv)).run P w = .ok (.slice (if b.int.toNat = 0 then a0 else a0.map (·.add (0 * s1.size))) a.int.toNat b.int.toNat) w := by
                  intro a0 cap hv hc
                  have hb1 := run_sliceBound (P := P) hm1.int.1 (y := cap) (by omega) (by omega) .slice3Acap w
                  have hb2 := run_sliceBound (P := P) hh1.int.1 (y := b.int.toNat) (by omega) (by omega) .slice3B w
                  rw [hv]
                  simp only [Instr.sliceAt, Instr.slice, Sem.run_bind, run_underlying hu, Result.andThen_ok, Option.map_none, Option.map_some, Instr.sliceBounds]
                  simp [hb1, hb2, run_size hle.plain]
                rcases own_take H hn (by rw [← e2]; exact ho) hx (k := a.int.toNat) (by omega) with ⟨a0, v1, v2, v3, v4⟩ | ⟨b0, cap, v1, v2, v3⟩
                · have := runv a0 0 (by rw [v1, v2]; rfl) (by rw [v2]; simp)
                  refine ⟨_, w, this, g, _, Ghost.le_refl g, Loc.le_upd hn, fun o ho => Loc.upd_other (by simp only at ho; omega), v3, ?_⟩
                  have hb0 : b.int.toNat = 0 := by rw [v2] at p2; simp at p2; omega
                  have ha0 : a.int.toNat = 0 := by omega
                  rw [hb0, ha0]; exact v4
                · have := runv _ cap v1 v2
                  obtain ⟨w1, w2⟩ := v3 b.int.toNat (by omega) (by omega)
                  refine ⟨_, w, this, g, _, Ghost.le_refl g, Loc.le_upd hn, fun o ho => Loc.upd_other (by simp only at ho; omega), w1, ?_⟩
                  have e : (Value.slice (if b.int.toNat = 0 then some ⟨b0, 0, none⟩ else (some (⟨b0, 0, none⟩ : Addr)).map (·.add (0 * s1.size))) a.int.toNat b.int.toNat) = .slice (some ⟨b0, 0, none⟩) a.int.toNat b.int.toNat := by
                    simp [addr_add]
                  rw [e]; exact w2
              · cases h
            · cases h
          · cases h
        split at h
        · rename_i k1 a k2 b e0 hrh hrm harg
          simp only [Option.some.injEq] at h; subst h
          simp only [holds] at hpre
          obtain ⟨p0, p1⟩ := hpre
          have hh1 := hρ hh
          have hm1 := hρ m
          rw [hrh] at hh1
          rw [hrm] at hm1
          have eh := hh1.int.1
          have em := hm1.int.1
          rw [p0] at eh
          rw [p1] at em
          obtain ⟨a0, len, cap, hv⟩ : ∃ a0 len cap, ρv x = .slice a0 len cap := by
            have := argD_hrel (Takes.whole H) H (ownP_true _) harg hx
            obtain ⟨us, u1, u2⟩ := HRel.dat_iff.1 this
            simp only [Rel] at u1
            obtain ⟨a0, cap, rfl, _⟩ := u1
            exact ⟨a0, _, cap, u2⟩
          have hb1 := run_sliceBound (P := P) em (y := cap) (by omega) (by omega) .slice3Acap w
          have hb2 := run_sliceBound (P := P) eh (y := 0) (by omega) (by omega) .slice3B w
          have e00 : (0 : Int).toNat = 0 := rfl
          rw [e00] at hb1 hb2
          refine ⟨.slice a0 0 0, w, ?_, g, loc.upd nx .nil, Ghost.le_refl g, Loc.le_upd hn, fun o ho => Loc.upd_other (by simp only at ho; omega), ?_, ?_⟩
          · rw [hv]
            simp only [Instr.sliceAt, Instr.slice, Sem.run_bind, run_underlying hu, Result.andThen_ok, Option.map_none, Option.map_some, Instr.sliceBounds]
            simp [hb1, hb2, run_size hle.plain]
          · exact H.new hn (ExtAll.refl w) .nil (.grow s1 []) (by intro b hb; simp [Place.blk] at hb) (.inl ⟨Loc.upd_same, rfl⟩)
          · show ∃ us, HC g _ (.own nx s1) us ∧ _ = mkV _ us
            exact ⟨[.slice a0 0 0], by simp only [HC]; exact .inl ⟨Loc.upd_same, a0, rfl⟩, rfl⟩
        · cases h
      · cases h
  · rename_i n s1 hty
    obtain ⟨hl, hd⟩ := hC.tab _ _ hty
    simp only [Lay] at hl
    obtain ⟨_, ⟨e, hu, hle⟩, _⟩ := hl
    split at h
    · split at h
      · rename_i o r p s2 hrx
        rw [hrx] at hx
        split at h
        · split at h
          · rename_i r0 v ho
            split at h
            · rename_i s3 d
              split at h
              · rename_i hb
                simp only [Bool.and_eq_true] at hb
                obtain ⟨⟨⟨e1, e2⟩, e3⟩, e4⟩ := hb
                have := Sh.beq_eq e1; subst this
                have := Sh.beq_eq e2; subst this
                have := Sh.beq_eq e3; subst this
                simp only [Option.some.injEq] at h; subst h
                obtain ⟨b, cap, len, off, h1, h2, h3, h4⟩ := hx.ptr
                simp only [Sh.navs, Option.some.injEq, Prod.mk.injEq] at h2
                obtain ⟨_, rfl⟩ := h2
                obtain ⟨b', cap', len', T, vs, k1, k2, k3, k4, k5⟩ := H.obj o _ ho
                rw [h1] at k1
                simp only [Option.some.injEq, Place.at.injEq] at k1
                obtain ⟨rfl, rfl, rfl, _⟩ := k1
                obtain ⟨c1, c2⟩ : cap = n ∧ len = n := k4.2
                subst c1; subst c2
                simp only [HC, Rel] at k5
                have hn2 := Nat.le_of_ble_eq_true e4
                refine ⟨.slice (some ⟨b, 0, none⟩) len len, w, ?_, g, loc, Ghost.le_refl g, Loc.le_refl loc, fun _ _ => rfl, ?_, own_mk h1⟩
                · rw [h4]
                  simp only [Instr.sliceAt, Sem.run_bind, run_underlying hu, Result.andThen_ok, Option.map_none, Instr.sliceBounds, Instr.sureAddr]
                  simp [run_size hle.plain, Addr.add]
                · refine HeapRel.set H ho rfl h1 rfl rfl (fun _ _ => rfl) ⟨rfl, rfl⟩ (.inr ⟨b, len, T, vs, ?_, k2, ?_, ?_, fun j hj => ?_⟩)
                  · simpa using h1
                  · have := k5.1
                    simp only [Array.length_toList] at this
                    omega
                  · simp only [List.length_map, List.length_range]; omega
                  · have hj' : j < len := by simpa using hj
                    have := k5.2 j hj'
                    simpa [List.getD_eq_getElem?_getD, hj'] using this
              · cases h
            · cases h
          · cases h
        · cases h
      · cases h
    · cases h
  · rename_i hty
    split at h
    · rename_i d hrx
      rw [hrx] at hx
      split at h
      · rename_i a b ha hb
        have hl := (hC.tab _ _ hty).1
        simp only [Lay] at hl
        simp only [Option.some.injEq] at h; subst h
        simp only [holds] at hpre
        obtain ⟨p0, p1, p2⟩ := hpre
        obtain ⟨us, h1, h2⟩ := HRel.dat_iff.1 hx
        simp only [Rel] at h1
        obtain ⟨rfl, hlen⟩ := h1
        simp only [Sh.agg, mkV, List.headD_cons] at h2
        have hsb := run_sliceBounds (isS := false) (P := P) hρ ha hb p0 p1 p2 (Nat.le_refl _) w
        refine ⟨.string (d.str.extract a.toNat b.toNat), w, ?_, OpPost.pure H (HRel.dat_iff.2 ⟨[.string (d.str.extract a.toNat b.toNat)], ?_, rfl⟩)⟩
        · rw [h2]
          simp only [Instr.sliceAt, Instr.slice, Sem.run_bind, run_underlying hl.2, Result.andThen_ok, Option.map_none, Option.isSome_none, Bool.false_eq_true, if_false, hsb, Sem.run_pure]
        · simp only [Rel, D.str]
          refine ⟨trivial, ?_⟩
          rw [ByteArray.size_extract]
          omega
      · cases h
    · cases h
  · cases h

/-- Parts of a slice are set to zero. -/
theorem s_clear (hC : CtxOK P c) {ρ : Operand → HV} {ρv : Operand → Value} (hρ : ∀ x, HRel g loc (ρ x) (ρv x)) (H : HeapRel w0 hp g loc w) {args : Array Operand} {tys : Array TypeId} {ty : Nat} {ef : Ef}
    (h : vop0 c nx ρ hp ty (.call { callee := .builtin .clear, args, argTypes := tys }) = some ef) : ∃ v w', (Builtin.clear_ tys ty (args.map ρv)).run P w = .ok v w' ∧ OpPost w0 hp nx g loc ef v w' := by
  simp only [vop0] at h
  split at h
  · rename_i x t hargs htys
    have ha : args = #[x] := by rw [← Array.toList_inj]; exact hargs
    have ht : tys = #[t] := by rw [← Array.toList_inj]; exact htys
    subst ha; subst ht
    have hx := hρ x
    split at h
    · rename_i o s a b s1 hrx hty
      rw [hrx] at hx
      split at h
      · rename_i s2 xs ho
        split at h
        · rename_i hb
          simp only [Bool.and_eq_true] at hb
          have := Sh.beq_eq hb.1; subst this
          have := Sh.beq_eq hb.2; subst this
          simp only [Option.some.injEq] at h; subst h
          obtain ⟨hl, hd⟩ := hC.tab _ _ hty
          simp only [Lay] at hl
          obtain ⟨_, e, hu, hle⟩ := hl
          have hds : s2.data = true := by simpa [Sh.data] using hd
          obtain ⟨i, hi1, hi2, hi3, _⟩ := hle.ty
          obtain ⟨us, hus, hv⟩ := hx
          simp only [HC] at hus
          have same : HeapRel w0 ((o, .grow s2 xs) :: hp) g loc w := HeapRel.congr (fun k => by
            rw [lk_cons]; split
            · rename_i e; subst e; exact ho.symm
            · rfl) H
          have tup : HRel g loc (.tup []) (.tuple #[]) := ⟨[], by simp only [HVs], rfl⟩
          have skip : (Builtin.clear_ #[t] ty (#[x].map ρv)).run P w = .ok (.tuple #[]) w → clrL s2 a b xs = xs → ∃ v w', (Builtin.clear_ #[t] ty (#[x].map ρv)).run P w = .ok v w' ∧ OpPost w0 hp nx g loc ⟨.tup [], [(o, .grow s2 (clrL s2 a b xs))], nx, none⟩ v w' := by
            intro h1 h2
            refine ⟨_, w, h1, g, loc, Ghost.le_refl g, Loc.le_refl loc, fun _ _ => rfl, ?_, tup⟩
            rw [h2]; exact same
          rcases H.obj o _ ho with ⟨k1, rfl⟩ | ⟨B, cap, T, cs, k1, k2, k3, k4, k5⟩
          · rcases hus with ⟨_, rfl, rfl, p, rfl⟩ | ⟨b', cap', len', e1, _⟩
            · refine skip ?_ rfl
              have hv' : ρv x = .slice p 0 0 := hv
              cases p <;> simp [Builtin.clear_, run_underlying hu, hv']
            · rw [k1] at e1; cases e1
          · rcases hus with ⟨e1, _⟩ | ⟨b', cap', len', e1, hab, hbl, rfl⟩
            · rw [k1] at e1; cases e1
            · rw [k1] at e1
              simp only [Option.some.injEq, Place.at.injEq] at e1
              obtain ⟨rfl, rfl, rfl, _⟩ := e1
              have hv' : ρv x = .slice (if cap = a then some ⟨B, 0, none⟩ else some ⟨B, a * s2.size, none⟩) (b - a) (cap - a) := hv
              by_cases hz : b - a = 0
              · refine skip ?_ ?_
                · rw [hz] at hv'
                  split at hv' <;> simp [Builtin.clear_, run_underlying hu, hv']
                · have : a = b := by omega
                  subst this
                  simp [clrL]
              · have hca : ¬ cap = a := by omega
                rw [if_neg hca] at hv'
                have hz0 := zero_cells hds
                have hzl := (Rel.zero g s2 hds).length
                have hzc : (mkV s2.agg (zcells s2)).cells.size = s2.size := by rw [← Array.length_toList, hz0, hzl]
                have hzt : (Builtin.zeroCells (mkV s2.agg (zcells s2)).cells (b - a)).toList = (List.replicate (b - a) (zcells s2)).flatten := by
                  have := range_mod_cells (b - a) (mkV s2.agg (zcells s2)).cells
                  rw [hz0] at this
                  exact this
                have hzn : (Builtin.zeroCells (mkV s2.agg (zcells s2)).cells (b - a)).toList.length = (b - a) * s2.size := by
                  rw [Array.length_toList, zeroCells_size, hzc]
                have hrz : ∀ j, j < b - a → Rel g s2 (D0 s2) (chunk (Builtin.zeroCells (mkV s2.agg (zcells s2)).cells (b - a)).toList (j * s2.size) s2.size) := by
                  intro j hj
                  rw [hzt, ← hzl, flatten_chunk _ _ _ hj]
                  exact Rel.zero g s2 hds
                have hle2 : a * s2.size + (b - a) * s2.size = b * s2.size := by rw [← Nat.add_mul]; congr 1; omega
                have hle3 : b * s2.size ≤ cs.size := Nat.le_trans (Nat.mul_le_mul_right _ (by omega)) k3
                have hone : ∀ v ∈ (Builtin.zeroCells (mkV s2.agg (zcells s2)).cells (b - a)).toList, v.oneCell' = true := by
                  intro v hv
                  rw [hzt, List.mem_flatten] at hv
                  obtain ⟨l, h1, h2⟩ := hv
                  rw [List.mem_replicate] at h1
                  rw [h1.2] at h2
                  exact (Rel.zero g s2 hds).one v h2
                have hst := run_storeCells_at P B (a * s2.size) T (Builtin.zeroCells (mkV s2.agg (zcells s2)).cells (b - a)).toList 0 cs w k2 (by rw [hzn]; omega) hone
                have hrun : (Builtin.clear_ #[t] ty (#[x].map ρv)).run P w = .ok (.tuple #[]) (w.setRow B (splice cs.toList (a * s2.size) (Builtin.zeroCells (mkV s2.agg (zcells s2)).cells (b - a)).toList).toArray) := by
                  have e0 : (#[x].map ρv) = #[ρv x] := by simp
                  rw [e0, hv']
                  obtain ⟨m, hm⟩ : ∃ m, b - a = m + 1 := ⟨b - a - 1, by omega⟩
                  rw [hm] at hst ⊢
                  simp only [Builtin.clear_, List.getElem?_toArray, List.getElem?_cons_zero, Sem.run_bind, run_underlying hu, Result.andThen_ok, run_zero (P := P) ⟨i, hi1, hi3⟩, Sem.run_pure]
                  simp only [splice, Nat.add_zero] at hst ⊢
                  rw [hst]
                  rfl
                refine ⟨_, _, hrun, g, loc, Ghost.le_refl g, Loc.le_refl loc, fun _ _ => rfl, ?_, tup⟩
                have hcl : (clrL s2 a b xs).length = xs.length := by
                  simp only [clrL, List.length_append, List.length_take, List.length_replicate, List.length_drop]; omega
                refine HeapRel.set H ho rfl k1 rfl (setRow_size _ _ _) (fun k hk => setRow_other _ _ _ _ hk) ⟨rfl, rfl⟩ ?_
                right
                have hspl : (splice cs.toList (a * s2.size) (Builtin.zeroCells (mkV s2.agg (zcells s2)).cells (b - a)).toList).length = cs.size := by
                  rw [splice_length _ _ _ (by rw [hzn, Array.length_toList]; omega), Array.length_toList]
                rw [hcl]
                refine ⟨B, cap, T, _, k1, setRow_same _ k2, by simpa [hspl] using k3, k4, fun j hj => ?_⟩
                have hj1 : j * s2.size + s2.size ≤ cs.size := by
                  have : j * s2.size + s2.size = (j + 1) * s2.size := by rw [Nat.add_mul, Nat.one_mul]
                  rw [this]; exact Nat.le_trans (Nat.mul_le_mul_right _ (by omega)) k3
                rcases Nat.lt_or_ge j a with h1 | h1
                · have e1 : (clrL s2 a b xs).getD j .Z = xs.getD j .Z := by
                    rw [List.getD_eq_getElem?_getD, List.getD_eq_getElem?_getD, clrL, List.append_assoc, List.getElem?_append_left (by rw [List.length_take]; omega), List.getElem?_take, if_pos h1]
                  have h2 : j * s2.size + s2.size ≤ a * s2.size := by
                    have : j * s2.size + s2.size = (j + 1) * s2.size := by rw [Nat.add_mul, Nat.one_mul]
                    rw [this]; exact Nat.mul_le_mul_right _ h1
                  rw [e1, chunk_splice_other]
                  · exact k5 j hj
                  · rw [hzn]; simp; omega
                  · exact .inl h2
                · rcases Nat.lt_or_ge j b with h2 | h2
                  · have e1 : (clrL s2 a b xs).getD j .Z = D0 s2 := by
                      rw [List.getD_eq_getElem?_getD, clrL, List.append_assoc, List.getElem?_append_right (by rw [List.length_take]; omega), List.length_take, List.getElem?_append_left (by rw [List.length_replicate]; omega), List.getElem?_replicate, if_pos (by omega)]; rfl
                    have h3 := chunk_splice_same cs.toList (Builtin.zeroCells (mkV s2.agg (zcells s2)).cells (b - a)).toList (a * s2.size) (by rw [hzn]; simp; omega)
                    have h4 : (j - a) * s2.size + s2.size ≤ (b - a) * s2.size := by
                      have : (j - a) * s2.size + s2.size = (j - a + 1) * s2.size := by rw [Nat.add_mul, Nat.one_mul]
                      rw [this]; exact Nat.mul_le_mul_right _ (by omega)
                    have h5 : a * s2.size + (j - a) * s2.size = j * s2.size := by rw [← Nat.add_mul]; congr 1; omega
                    rw [e1, ← h5, ← chunk_chunk _ _ ((b - a) * s2.size) _ _ h4]
                    rw [hzn] at h3
                    simp only [List.toList_toArray] at h3 ⊢
                    rw [h3]
                    exact hrz (j - a) (by omega)
                  · have e1 : (clrL s2 a b xs).getD j .Z = xs.getD j .Z := by
                      rw [List.getD_eq_getElem?_getD, List.getD_eq_getElem?_getD, clrL, List.getElem?_append_right (by rw [List.length_append, List.length_take, List.length_replicate]; omega), List.length_append, List.length_take, List.length_replicate, List.getElem?_drop]
                      congr 2; omega
                    rw [e1, chunk_splice_other]
                    · exact k5 j hj
                    · rw [hzn]; simp; omega
                    · right; rw [hzn, hle2]; exact Nat.mul_le_mul_right _ h2
        · cases h
      · cases h
    · cases h
  · cases h

theorem HRel.mp {o : Nat} {ks vs : Sh} {v : Value} (h : HRel g loc (.mp o ks vs) v) : ∃ b, loc o = some (.obj b) ∧ v = .map (some b) := by
  obtain ⟨us, h1, h2⟩ := h
  simp only [HC] at h1
  obtain ⟨b, h1, rfl⟩ := h1
  exact ⟨b, h1, h2⟩
theorem HRel.mit {o : Nat} {v : Value} (h : HRel g loc (.mit o) v) : ∃ b, loc o = some (.obj b) ∧ v = .pointer (some ⟨b, 0, none⟩) := by
  obtain ⟨us, h1, h2⟩ := h
  simp only [HC] at h1
  obtain ⟨b, h1, rfl⟩ := h1
  exact ⟨b, h1, h2⟩

theorem s_makeMap (hC : CtxOK P c) {ρ : Operand → HV} {ρv : Operand → Value} (hρ : ∀ x, HRel g loc (ρ x) (ρv x)) (H : HeapRel w0 hp g loc w) (hn : loc nx = none) {t : Nat} {r : Option Operand} {ty : Nat} {ef : Ef}
    (h : vop0 c nx ρ hp ty (.makeMap t r) = some ef) : ∃ v w', (Instr.makeMap t (r.map ρv)).run P w = .ok v w' ∧ OpPost w0 hp nx g loc ef v w' := by
  have fin : ∀ ks vs, ef = ⟨.mp nx ks vs, [(nx, .map ks vs [])], nx + 1, none⟩ → OpPost w0 hp nx g loc ef (.map (some w.heap.size)) (w.alloc (.map #[] 0)) := by
    rintro ks vs rfl
    refine ⟨g, loc.upd nx (.obj w.heap.size), Ghost.le_refl g, Loc.le_upd hn, fun o ho => Loc.upd_other (by simp only at ho; omega), ?_, ?_⟩
    · refine H.new hn (ExtAll.alloc _ _) _ _ (by intro b hb; simp only [Place.blk, Option.some.injEq] at hb; omega) ⟨w.heap.size, #[], Loc.upd_same, heap_alloc_new _ _, by simp [EntR]⟩
    · show ∃ us, HC g _ (.mp nx ks vs) us ∧ _ = mkV _ us
      exact ⟨[.map (some w.heap.size)], by simp only [HC]; exact ⟨_, Loc.upd_same, rfl⟩, rfl⟩
  simp only [vop0] at h
  split at h
  · rename_i ks vs hmt
    simp only [Option.some.injEq] at h
    refine ⟨.map (some w.heap.size), w.alloc (.map #[] 0), ?_, fin ks vs h.symm⟩
    simp [Instr.makeMap, run_newObj]
  · rename_i y ks vs hmt
    split at h
    · rename_i k d hr
      simp only [Option.some.injEq] at h
      have hy := hρ y
      rw [hr] at hy
      obtain ⟨kt, et, hu, _⟩ := hC.maps _ _ hmt
      refine ⟨.map (some w.heap.size), w.alloc (.map #[] 0), ?_, fin ks vs h.symm⟩
      simp [Instr.makeMap, run_underlying hu, hy.int.1, asInt, asIntOf, run_newObj]
    · cases h
  · cases h

theorem s_mapUpdate (hC : CtxOK P c) {ρ : Operand → HV} {ρv : Operand → Value} (hρ : ∀ x, HRel g loc (ρ x) (ρv x)) (H : HeapRel w0 hp g loc w) {t : Nat} {m k v : Operand} {ty : Nat} {ef : Ef}
    (h : vop0 c nx ρ hp ty (.mapUpdate t m k v) = some ef) : ∃ w', (Instr.mapUpdate t (ρv m) (ρv k) (ρv v)).run P w = .ok () w' ∧ OpPost w0 hp nx g loc ef undef w' := by
  simp only [vop0] at h
  have hm := hρ m
  have hk := hρ k
  have hv := hρ v
  split at h
  · rename_i q vs o q1 vs1 q2 kd s vd hmt hrm hrk hrv
    rw [hrm] at hm; rw [hrk] at hk; rw [hrv] at hv
    split at h
    · rename_i q3 vs3 es hb ho
      simp only [Bool.and_eq_true, decide_eq_true_eq] at hb
      obtain ⟨⟨⟨rfl, rfl⟩, hb1⟩, hb2⟩ := hb
      have := Sh.beq_eq hb1; subst this
      have := Sh.beq_eq hb2; subst this
      split at h
      · rename_i hb3
        simp only [Bool.and_eq_true, decide_eq_true_eq] at hb3
        obtain ⟨rfl, hb3⟩ := hb3
        have := Sh.beq_eq hb3; subst this
        simp only [Option.some.injEq] at h; subst h
        obtain ⟨kt, et, hu, hlk, hle, hd⟩ := hC.maps _ _ hmt
        simp only [Lay] at hlk
        obtain ⟨b, arr, k1, k2, k3⟩ := H.obj o _ ho
        obtain ⟨b', e1, e2⟩ := hm.mp
        rw [k1] at e1
        simp only [Option.some.injEq, Place.obj.injEq] at e1
        subst e1
        obtain ⟨ek, hr⟩ := hk.int
        obtain ⟨us, u1, u2⟩ := HRel.dat_iff.1 hv
        obtain ⟨arr', r1, r2⟩ := run_mapUpdate_int (P := P) hu hlk.2 k2 k3 (k := kd) hr u1
        rw [e2, ek, u2]
        refine ⟨_, r1, g, loc, Ghost.le_refl g, Loc.le_refl loc, fun _ _ => rfl, ?_, trivial⟩
        have hs := MapKept.heap_set (w := w) (o' := .map arr' (mPut kd vd es).length) k2
        exact HeapRel.set H ho rfl k1 rfl (by simp) (fun k hk => hs.2 k hk) ⟨rfl, rfl⟩ ⟨b, arr', k1, hs.1, r2⟩
      · cases h
    · cases h
  · rename_i ss vs o s1 vs1 s2 kd s vd hmt hrm hrk hrv
    rw [hrm] at hm; rw [hrk] at hk; rw [hrv] at hv
    split at h
    · rename_i s3 vs3 es hb ho
      simp only [Bool.and_eq_true] at hb
      obtain ⟨⟨⟨⟨hb1, hb2⟩, hb3⟩, hb4⟩, hai⟩ := hb
      have := Sh.beqs_eq hb1; subst this
      have := Sh.beqs_eq hb2; subst this
      have := Sh.beq_eq hb3; subst this
      have := Sh.beq_eq hb4; subst this
      split at h
      · rename_i hb5
        simp only [Bool.and_eq_true] at hb5
        have := Sh.beqs_eq hb5.1; subst this
        have := Sh.beq_eq hb5.2; subst this
        simp only [Option.some.injEq] at h; subst h
        obtain ⟨kt, et, hu, hlk, hle, hd⟩ := hC.maps _ _ hmt
        obtain ⟨b, arr, k1, k2, k3⟩ := H.obj o _ ho
        obtain ⟨b', e1, e2⟩ := hm.mp
        rw [k1] at e1
        simp only [Option.some.injEq, Place.obj.injEq] at e1
        subst e1
        obtain ⟨us0, n1, n2⟩ := HRel.dat_iff.1 hk
        obtain ⟨us, u1, u2⟩ := HRel.dat_iff.1 hv
        obtain ⟨arr', r1, r2⟩ := run_mapUpdate_struct (P := P) hu hlk hai k2 k3 n1 u1
        rw [e2, n2, u2]
        refine ⟨_, r1, g, loc, Ghost.le_refl g, Loc.le_refl loc, fun _ _ => rfl, ?_, trivial⟩
        have hs := MapKept.heap_set (w := w) (o' := .map arr' (mPutS s3 kd vd es).length) k2
        exact HeapRel.set H ho rfl k1 rfl (by simp) (fun k hk => hs.2 k hk) ⟨rfl, rfl⟩ ⟨b, arr', k1, hs.1, r2⟩
      · cases h
    · cases h
  · cases h

theorem s_lookup (hC : CtxOK P c) {ρ : Operand → HV} {ρv : Operand → Value} (hρ : ∀ x, HRel g loc (ρ x) (ρv x)) (H : HeapRel w0 hp g loc w) {t : Nat} {m k : Operand} {ok : Bool} {ty : Nat} {ef : Ef}
    (h : vop0 c nx ρ hp ty (.lookup t m k ok) = some ef) : ∃ v, (Instr.lookup t (ρv m) (ρv k) ok).run P w = .ok v w ∧ OpPost w0 hp nx g loc ef v w := by
  simp only [vop0] at h
  have hm := hρ m
  have hk := hρ k
  split at h
  · rename_i q vs o q1 vs1 q2 kd hmt hrm hrk
    rw [hrm] at hm; rw [hrk] at hk
    split at h
    · rename_i q3 vs3 es hb ho
      simp only [Bool.and_eq_true, decide_eq_true_eq] at hb
      obtain ⟨⟨rfl, rfl⟩, hb1⟩ := hb
      have := Sh.beq_eq hb1; subst this
      split at h
      · rename_i hb3
        simp only [Bool.and_eq_true, decide_eq_true_eq] at hb3
        obtain ⟨rfl, hb3⟩ := hb3
        have := Sh.beq_eq hb3; subst this
        obtain ⟨kt, et, hu, hlk, hle, hd⟩ := hC.maps _ _ hmt
        simp only [Lay] at hlk
        obtain ⟨i, hi1, hi2, hi3, _⟩ := hle.ty
        obtain ⟨b, arr, k1, k2, k3⟩ := H.obj o _ ho
        obtain ⟨b', e1, e2⟩ := hm.mp
        rw [k1] at e1
        simp only [Option.some.injEq, Place.obj.injEq] at e1
        subst e1
        obtain ⟨ek, hr⟩ := hk.int
        obtain ⟨us, r1, r2⟩ := run_lookup_int (P := P) (w := w) (n := kd.int) hu hlk.2 k2 k3 (run_zero (P := P) ⟨i, hi1, hi3⟩) ⟨_, Rel.zero g _ hd, rfl⟩ ok
        rw [e2, ek]
        refine ⟨_, r2, ?_⟩
        split at h
        · simp only [Option.some.injEq] at h; subst h
          refine OpPost.pure H ?_
          show ∃ l, HVs g loc _ l ∧ _ = Value.tuple l.toArray
          refine ⟨[mkV _ us, .bool _], ?_, rfl⟩
          simp only [HVs, HC]
          exact ⟨⟨us, r1, rfl⟩, ⟨[.bool (mHas kd.int es)], by simp only [Rel, D.bool], rfl⟩, trivial⟩
        · simp only [Option.some.injEq] at h; subst h
          exact OpPost.pure H (HRel.dat_iff.2 ⟨us, r1, rfl⟩)
      · cases h
    · cases h
  · rename_i ss vs o s1 vs1 s2 kd hmt hrm hrk
    rw [hrm] at hm; rw [hrk] at hk
    split at h
    · rename_i s3 vs3 es hb ho
      simp only [Bool.and_eq_true] at hb
      obtain ⟨⟨⟨hb1, hb2⟩, hb3⟩, hai⟩ := hb
      have := Sh.beqs_eq hb1; subst this
      have := Sh.beqs_eq hb2; subst this
      have := Sh.beq_eq hb3; subst this
      split at h
      · rename_i hb5
        simp only [Bool.and_eq_true] at hb5
        have := Sh.beqs_eq hb5.1; subst this
        have := Sh.beq_eq hb5.2; subst this
        obtain ⟨kt, et, hu, hlk, hle, hd⟩ := hC.maps _ _ hmt
        obtain ⟨i, hi1, hi2, hi3, _⟩ := hle.ty
        obtain ⟨b, arr, k1, k2, k3⟩ := H.obj o _ ho
        obtain ⟨b', e1, e2⟩ := hm.mp
        rw [k1] at e1
        simp only [Option.some.injEq, Place.obj.injEq] at e1
        subst e1
        obtain ⟨us0, n1, n2⟩ := HRel.dat_iff.1 hk
        obtain ⟨us, r1, r2⟩ := run_lookup_struct (P := P) (w := w) hu hlk hai k2 k3 n1 (run_zero (P := P) ⟨i, hi1, hi3⟩) ⟨_, Rel.zero g _ hd, rfl⟩ ok
        rw [e2, n2]
        refine ⟨_, r2, ?_⟩
        split at h
        · simp only [Option.some.injEq] at h; subst h
          refine OpPost.pure H ?_
          show ∃ l, HVs g loc _ l ∧ _ = Value.tuple l.toArray
          refine ⟨[mkV _ us, .bool _], ?_, rfl⟩
          simp only [HVs, HC]
          exact ⟨⟨us, r1, rfl⟩, ⟨[.bool (mHasS _ kd es)], by simp only [Rel, D.bool], rfl⟩, trivial⟩
        · simp only [Option.some.injEq] at h; subst h
          exact OpPost.pure H (HRel.dat_iff.2 ⟨us, r1, rfl⟩)
      · cases h
    · cases h
  · cases h

theorem s_range (hC : CtxOK P c) {ρ : Operand → HV} {ρv : Operand → Value} (hρ : ∀ x, HRel g loc (ρ x) (ρv x)) (H : HeapRel w0 hp g loc w) (hn : loc nx = none) {t : Nat} {m : Operand} {ty : Nat} {ef : Ef}
    (h : vop0 c nx ρ hp ty (.range t m) = some ef) : ∃ v w', (Instr.range t (ρv m)).run P w = .ok v w' ∧ OpPost w0 hp nx g loc ef v w' := by
  simp only [vop0] at h
  have hm := hρ m
  split at h
  · rename_i ks0 vs0 o ks1 vs1 hmt hrm
    rw [hrm] at hm
    split at h
    · rename_i ks vs es ho
      simp only [Option.some.injEq] at h; subst h
      obtain ⟨kt, et, hu, _⟩ := hC.maps _ _ hmt
      obtain ⟨b, arr, k1, k2, k3⟩ := H.obj o _ ho
      obtain ⟨b', e1, e2⟩ := hm.mp
      rw [k1] at e1
      simp only [Option.some.injEq, Place.obj.injEq] at e1
      subst e1
      have hne : o ≠ nx := fun e => by rw [e, hn] at k1; cases k1
      refine ⟨.pointer (some ⟨w.heap.size, 0, none⟩), w.alloc (.mapIter (some b) es.length #[] es.length), ?_, g, loc.upd nx (.obj w.heap.size), Ghost.le_refl g, Loc.le_upd hn, fun o ho => Loc.upd_other (by simp only at ho; omega), ?_, ?_⟩
      · rw [e2]
        simp [Instr.range, run_underlying hu, MapKept.run_getObj_map k2, run_newObj]
      · refine H.new hn (ExtAll.alloc _ _) _ _ (by intro b hb; simp only [Place.blk, Option.some.injEq] at hb; omega) ⟨w.heap.size, b, Loc.upd_same, by rw [Loc.upd_other hne]; exact k1, heap_alloc_new _ _, fun h => absurd rfl h⟩
      · show ∃ us, HC g _ (.mit nx) us ∧ _ = mkV _ us
        exact ⟨[.pointer (some ⟨w.heap.size, 0, none⟩)], by simp only [HC]; exact ⟨_, Loc.upd_same, rfl⟩, rfl⟩
    · cases h
  · cases h

theorem find_born {ks vs : Sh} : ∀ {i : Nat} {es : List (D × D)} {arr : List MapEntry}, EntR g ks vs i es arr → ∀ j, j < es.length → ∃ e, arr[j]? = some e ∧ arr.find? (fun x => x.born == i + j) = some e
  | _, [], [], _, j, hj => by simp at hj
  | i, (k, v) :: es, e :: arr, h, 0, _ => by
    simp only [EntR] at h
    exact ⟨e, rfl, by simp [List.find?_cons, h.1]⟩
  | i, (k, v) :: es, e :: arr, h, j + 1, hj => by
    simp only [EntR] at h
    obtain ⟨e', h1, h2⟩ := find_born h.2.2.2 j (by simpa using hj)
    refine ⟨e', by simpa using h1, ?_⟩
    have hne : (e.born == i + (j + 1)) = false := by rw [h.1]; simp
    rw [List.find?_cons, hne]
    simp only
    rw [show i + (j + 1) = i + 1 + j by omega]; exact h2
  | _, [], _ :: _, h, _, _ => by simp [EntR] at h
  | _, _ :: _, [], h, _, _ => by simp [EntR] at h

theorem s_entry {ρ : Operand → HV} {ρv : Operand → Value} (hρ : ∀ x, HRel g loc (ρ x) (ρv x)) (H : HeapRel w0 hp g loc w) {x : Operand} {ty : Nat} {ef : Ef}
    (h : vop0 c nx ρ hp ty (.entry x) = some ef) (hpre : holds ef.pre) : ∃ v, (Instr.entry (ρv x)).run P w = .ok v w ∧ OpPost w0 hp nx g loc ef v w := by
  simp only [vop0] at h
  have hx := hρ x
  split at h
  · rename_i o hrx
    rw [hrx] at hx
    split at h
    · rename_i om since last seen ho
      split at h
      · rename_i ks vs es i hom hlast
        simp only [Option.some.injEq] at h; subst h
        simp only [holds] at hpre
        obtain ⟨rfl, hi⟩ := hpre
        obtain ⟨b, bm, k1, k2, k3, k4⟩ := H.obj o _ ho
        obtain ⟨b', e1, e2⟩ := hx.mit
        rw [k1] at e1
        simp only [Option.some.injEq, Place.obj.injEq] at e1
        subst e1
        obtain ⟨bm', arr, m1, m2, m3⟩ := H.obj om _ hom
        rw [k2] at m1
        simp only [Option.some.injEq, Place.obj.injEq] at m1
        subst m1
        obtain ⟨e, f1, f2⟩ := find_born m3 i hi
        rw [Nat.zero_add] at f2
        have hp0 : es[i]? = some (es.getD i (.Z, .Z)) := by rw [List.getD_eq_getElem?_getD, List.getElem?_eq_getElem hi]; rfl
        obtain ⟨e', g1, g2, g3, g4⟩ := m3.get i _ hp0
        rw [f1] at g1
        simp only [Option.some.injEq] at g1; subst g1
        have hback : seen.reverse.toArray.back? = some i := by simpa [List.back?_toArray, List.getLast?_reverse] using hlast
        have hfind : arr.find? (fun x => x.born == i) = some e := by rw [← Array.find?_toList]; exact f2
        refine ⟨.tuple #[e.key, e.val], ?_, OpPost.pure H ?_⟩
        · rw [e2]
          have hg : (getObj b).run P w = .ok (.mapIter (some bm) since seen.reverse.toArray es.length) w := by simp [getObj, Sem.run, k3]
          simp only [Instr.entry, Sem.run_bind, hg, Result.andThen_ok, hback, MapKept.run_getObj_map m2, ne_eq, not_true, if_false, hfind, Sem.run_pure]
          simp [hfind]
        · show ∃ l, HVs g loc _ l ∧ _ = Value.tuple l.toArray
          refine ⟨[e.key, e.val], ?_, rfl⟩
          simp only [HVs, HC]
          exact ⟨g3, g4, trivial⟩
      · cases h
    · cases h
  · cases h
end
end Go.Vm

noncomputable section
namespace Go.Vm
open Go

section
variable {P : Program} {c : Ctx} {g : Ghost} {loc : Loc} {w0 : Base} {w : World} {hp : Hp} {nx : Nat}

theorem opwp_value {K : Value → World → Prop} {m : Sem Value} (h : ∃ v w', m.run P w = .ok v w' ∧ K v w') : OpWp P K ((do pure (.value (← m)) : Sem Next).run P w) := by
  obtain ⟨v, w', h1, h2⟩ := h
  simp only [Sem.run_bind, h1, Result.andThen_ok, Sem.run_pure, OpWp]
  exact h2
theorem opwp_unit {K : Value → World → Prop} {m : Sem Unit} (h : ∃ w', m.run P w = .ok () w' ∧ K undef w') : OpWp P K ((do m; pure .skip : Sem Next).run P w) := by
  obtain ⟨w', h1, h2⟩ := h
  simp only [Sem.run_bind, h1, Result.andThen_ok, Sem.run_pure, OpWp]
  exact h2
theorem val_of {K : Value → World → Prop} {m : Sem Value} (h : ∃ v, m.run P w = .ok v w ∧ K v w) : ∃ v w', m.run P w = .ok v w' ∧ K v w' := by
  obtain ⟨v, h1, h2⟩ := h
  exact ⟨v, w, h1, h2⟩

theorem s_move {ρ : Operand → HV} {ρv : Operand → Value} (hρ : ∀ x, HRel g loc (ρ x) (ρv x)) (hk : ∀ v, ρv (.const v) = v) (H : HeapRel w0 hp g loc w) (hn : loc nx = none) {x : Operand} {ty : Nat} {ef : Ef}
    (h : vop0 c nx ρ hp ty (.move x) = some ef) : OpPost w0 hp nx g loc ef (ρv x) w := by
  simp only [vop0] at h
  split at h
  · rename_i v
    split at h
    · rename_i hnl
      split at h
      · rename_i s hty
        simp only [Option.some.injEq] at h; subst h
        refine ⟨g, loc.upd nx .nil, Ghost.le_refl g, Loc.le_upd hn, fun o ho => Loc.upd_other (by simp only at ho; omega), ?_, ?_⟩
        · exact H.new hn (ExtAll.refl w) .nil (.grow s []) (by intro b hb; simp [Place.blk] at hb) (.inl ⟨Loc.upd_same, rfl⟩)
        · rw [hk, isNil_eq hnl]
          show ∃ us, HC g _ (.own nx s) us ∧ _ = mkV _ us
          exact ⟨[.slice none 0 0], by simp only [HC]; exact .inl ⟨Loc.upd_same, none, rfl⟩, rfl⟩
      · cases h
    · simp only [Option.some.injEq] at h; subst h
      exact OpPost.pure H (hρ _)
  · simp only [Option.some.injEq] at h; subst h
    exact OpPost.pure H (hρ _)

theorem fn_mk {f : Nat} {caps : List HV} {cs : List Value} (hf : Nat.ble bndN f = false) (h : HVs g loc caps cs) : HRel g loc (.fn f caps) (.func (.func f) #[] cs.toArray) := by
  show ∃ us, HC g loc (.fn f caps) us ∧ _ = mkV _ us
  refine ⟨[fnV f cs], by simp only [HC]; exact ⟨cs, h, rfl⟩, ?_⟩
  rw [fnV_f hf]; rfl
theorem bnd_mk {f : Nat} {caps : List HV} {cs : List Value} (h : HVs g loc caps cs) : HRel g loc (.fn (bndF f) caps) (.func (.func f) cs.toArray #[]) := by
  show ∃ us, HC g loc (.fn (bndF f) caps) us ∧ _ = mkV _ us
  refine ⟨[fnV (bndF f) cs], by simp only [HC]; exact ⟨cs, h, rfl⟩, ?_⟩
  rw [fnV_b (bndF_le f), bndF_sub]; rfl

theorem HVs_length : ∀ {hs : List HV} {vs : List Value}, HVs g loc hs vs → hs.length = vs.length
  | [], [], _ => rfl
  | h :: hs, v :: vs, k => by simp only [HVs] at k; simp [HVs_length k.2]
  | [], _ :: _, h => by simp [HVs] at h
  | _ :: _, [], h => by simp [HVs] at h

theorem run_bnd {ρv : Operand → Value} {x : Operand} {n : Nat} {cs : Array Value} {args : Array Operand} {dst ty tys pos after guard} (h2 : ρv x = .func (.func n) cs #[]) :
    (execOp ρv ⟨dst, .call ⟨.value x, args, tys⟩, ty, pos, after, guard⟩).run P w = (callFunc n (cs.toList ++ args.toList.map ρv).toArray).run P w := by
  simp only [execOp, resolve, h2, Deferred.ofValue, Sem.run_bind, Sem.run_pure, Result.andThen_ok, invoke]
  congr 2
  rw [← Array.toList_inj]; simp

/-- **One operation.** -/
theorem vop0_sound (hC : CtxOK P c) {ρ : Operand → HV} {ρv : Operand → Value} (hρ : ∀ x, HRel g loc (ρ x) (ρv x)) (hk : ∀ v, ρv (.const v) = v) (H : HeapRel w0 hp g loc w) (hn : loc nx = none) (hn1 : loc (nx + 1) = none) {o : Oper} {ef : Ef}
    (h : vop0 c nx ρ hp o.type o.op = some ef) (hpre : holds ef.pre) : OpWp P (OpPost w0 hp nx g loc ef) ((execOp ρv o).run P w) := by
  obtain ⟨dst, op, ty, pos, after, guard⟩ := o
  simp only at h
  cases op with
  | move x => exact s_move hρ hk H hn h
  | assign x => exact s_move hρ hk H hn h
  | alloc t => exact opwp_value (s_alloc hC H hn hn1 h)
  | box t x => exact opwp_value (s_box hρ H hn h)
  | build t ps => exact opwp_value (val_of (s_build hC hρ H h))
  | buildSlice t n ps => exact opwp_value (s_buildSlice hC hρ H hn h)
  | load t x => exact opwp_value (val_of (s_load hC hρ H h))
  | store t a x => exact opwp_unit (s_store hC hρ H h)
  | binOp op t x y t' => exact opwp_value (val_of (s_binOp hC hρ H h hpre))
  | unOp op t x => exact opwp_value (val_of (s_unOp hρ H h))
  | convert t t' x => exact opwp_value (s_convert hC hρ H h hpre)
  | fieldAddr t x i => exact opwp_value (val_of (s_fieldAddr hC hρ H h))
  | indexAddr t x i => exact opwp_value (val_of (s_indexAddr hC hρ H h hpre))
  | field t x i => exact opwp_value (val_of (s_field hC hρ H h))
  | index t x i => exact opwp_value (val_of (s_index hC hρ H h hpre))
  | extract x i => exact opwp_value (val_of (s_extract hρ H h))
  | makeSlice t l k => exact opwp_value (s_makeSlice hC hρ H hn h hpre)
  | slice t x lo hi mx => exact opwp_value (s_slice hC hρ H hn h hpre)
  | makeMap t r => exact opwp_value (s_makeMap hC hρ H hn h)
  | insert t m k x => exact opwp_unit (s_mapUpdate hC hρ H (ty := ty) h)
  | mapUpdate t m k x => exact opwp_unit (s_mapUpdate hC hρ H h)
  | lookup t m k ok => exact opwp_value (val_of (s_lookup hC hρ H h))
  | range t m => exact opwp_value (s_range hC hρ H hn h)
  | entry x => exact opwp_value (val_of (s_entry hρ H h hpre))
  | makeFunc fn first caps =>
    cases fn with
    | func f =>
      simp only [vop0] at h
      split at h
      · cases h
      rename_i hlt
      split at h
      · rename_i hf hs
        simp only [Option.some.injEq] at h; subst h
        have hfe : first = #[] := by rw [← Array.toList_inj]; exact hf
        subst hfe
        refine opwp_value ⟨.func (.func f) #[] (caps.toList.map ρv).toArray, w, by simp [Instr.makeFunc]; rw [← Array.toList_inj]; simp, OpPost.pure H ?_⟩
        exact fn_mk hlt (HVs_map (g := g) (loc := loc) hρ caps.toList hs)
      · rename_i x hf hs0
        split at h
        · rename_i hc hs
          simp only [Option.some.injEq] at h; subst h
          have hfe : first = #[x] := by rw [← Array.toList_inj]; exact hf
          have hce : caps = #[] := by rw [← Array.toList_inj]; exact hc
          subst hfe; subst hce
          refine opwp_value ⟨.func (.func f) ([x].map ρv).toArray #[], w, by simp [Instr.makeFunc], OpPost.pure H ?_⟩
          exact bnd_mk (HVs_map (g := g) (loc := loc) hρ [x] hs)
        · cases h
      · cases h
    | _ => simp [vop0] at h
  | nilCheck x =>
    simp only [vop0] at h
    have hx := hρ x
    split at h
    · rename_i o r p s hrx
      rw [hrx] at hx
      simp only [Option.some.injEq] at h; subst h
      have hx' := hx
      obtain ⟨b, cap, len, off, _, _, _, h4⟩ := hx.ptr
      simp only [execOp]
      rw [h4] at hx' ⊢
      exact OpPost.pure H hx'
    · rename_i s d hrx
      rw [hrx] at hx
      simp only [Option.some.injEq] at h; subst h
      have hx' := hx
      obtain ⟨b, off, cs, T, fr, _, _, _, h4⟩ := hx.gptr
      simp only [execOp]
      rw [h4] at hx' ⊢
      exact OpPost.pure H hx'
    · rename_i f cs hrx
      rw [hrx] at hx
      simp only [Option.some.injEq] at h; subst h
      have hx' := hx
      obtain ⟨us, h1, h2⟩ := hx
      simp only [HC] at h1
      obtain ⟨vs, _, rfl⟩ := h1
      simp only [HV.agg, mkV, List.headD_cons] at h2
      simp only [execOp]
      rw [h2] at hx' ⊢
      cases hb : Nat.ble bndN f
      · rw [fnV_f hb] at hx' ⊢
        exact OpPost.pure H hx'
      · rw [fnV_b hb] at hx' ⊢
        exact OpPost.pure H hx'
    · cases h
  | call cl =>
    obtain ⟨callee, args, tys⟩ := cl
    cases callee with
    | builtin b =>
      cases b with
      | len => exact opwp_value (val_of (s_len hC hρ H h hpre))
      | max => exact opwp_value (val_of (s_max hρ H h))
      | min => exact opwp_value (val_of (s_min hρ H h))
      | append => exact opwp_value (s_append hC hρ H hn hn1 h hpre)
      | clear => exact opwp_value (s_clear hC hρ H h)
      | _ => simp [vop0] at h
    | invoke r m => simp [vop0] at h
    | value f =>
      simp only [vop0] at h
      have hf := hρ f
      split at h
      · rename_i n caps hrf
        rw [hrf] at hf
        obtain ⟨us, h1, h2⟩ := hf
        simp only [HC] at h1
        obtain ⟨cs, h3, rfl⟩ := h1
        simp only [HV.agg, mkV, List.headD_cons] at h2
        split at h
        · rename_i hb
          rw [fnV_f hb] at h2
          rw [fHVsO_eq] at h
          have hrun : ((execOp ρv ⟨dst, .call ⟨.value f, args, tys⟩, ty, pos, after, guard⟩).run P w) = (callFunc n ((args.toList.map ρv) ++ cs).toArray).run P w := by
            simp only [execOp, resolve, h2, Deferred.ofValue, Sem.run_bind, Sem.run_pure, Result.andThen_ok, invoke]
            congr 2
            rw [← Array.toList_inj]; simp
          rw [hrun]
          refine doCall_sound hC H hn h hpre ?_ ?_
          · intro i hh v h4 h5
            by_cases hi : i < args.toList.length
            · rw [List.getElem?_append_left (by simpa using hi), List.getElem?_map] at h4 h5
              cases hx : args.toList[i]? with
              | none => rw [hx] at h4; simp at h4
              | some x =>
                rw [hx] at h4 h5
                simp only [Option.map_some, Option.some.injEq] at h4 h5
                subst h4; subst h5; exact hρ x
            · rw [List.getElem?_append_right (by simpa using hi)] at h4 h5
              simp only [List.length_map] at h4 h5
              obtain ⟨v', h6, h7⟩ := HVs_get h3 h4
              rw [h6] at h5
              simp only [Option.some.injEq] at h5; subst h5; exact h7
          · simp [HVs_length h3]
        · rename_i hb
          rw [fnV_b hb] at h2
          rw [fHVsO_eq] at h
          rw [run_bnd (dst := dst) (ty := ty) (tys := tys) (pos := pos) (after := after) (guard := guard) h2]
          refine doCall_sound hC H hn h hpre ?_ ?_
          · intro i hh v h4 h5
            by_cases hi : i < caps.length
            · rw [List.getElem?_append_left hi] at h4
              rw [List.getElem?_append_left (by rw [← HVs_length h3]; exact hi)] at h5
              obtain ⟨v', h6, h7⟩ := HVs_get h3 h4
              rw [h6] at h5
              simp only [Option.some.injEq] at h5; subst h5; exact h7
            · rw [List.getElem?_append_right (by omega)] at h4
              rw [List.getElem?_append_right (by rw [← HVs_length h3]; omega), ← HVs_length h3] at h5
              rw [List.getElem?_map] at h4 h5
              cases hx : args.toList[i - caps.length]? with
              | none => rw [hx] at h4; simp at h4
              | some x =>
                rw [hx] at h4 h5
                simp only [Option.map_some, Option.some.injEq] at h4 h5
                subst h4; subst h5; exact hρ x
          · simp [HVs_length h3]
      · cases h
  | _ => simp [vop0] at h

/-- Numbers and truth values in one form. -/
def norm : HV → HV
  | .dat (.int k) d => .dat (.int k) (.I d.int)
  | .dat .bool d => .dat .bool (.B d.bool)
  | h => h
theorem norm_rel {h : HV} {v : Value} (hr : HRel g loc h v) : HRel g loc (norm h) v := by
  unfold norm
  split
  · obtain ⟨h1, h2, h3⟩ := hr.int
    rw [h1]; exact HRel.int_mk h2 h3
  · rw [hr.bool]; exact HRel.bool_mk
  · exact hr
/-- What the evaluator makes of one operation. -/
def vop (c : Ctx) (nx : Nat) (ρ : Operand → HV) (hp : Hp) (ty : Nat) (op : Op) : Option Ef := match vop0 c nx ρ hp ty op with
  | some ⟨hv, upd, nx', pre⟩ => some ⟨norm hv, upd, nx', pre⟩
  | none => none
theorem vop_some {c : Ctx} {nx : Nat} {ρ : Operand → HV} {hp : Hp} {ty : Nat} {op : Op} {ef : Ef} (h : vop c nx ρ hp ty op = some ef) : ∃ ef0, vop0 c nx ρ hp ty op = some ef0 ∧ ef = ⟨norm ef0.hv, ef0.upd, ef0.nx, ef0.pre⟩ := by
  unfold vop at h
  split at h
  · rename_i hv upd nx' pre h0
    simp only [Option.some.injEq] at h
    exact ⟨_, h0, h.symm⟩
  · cases h
theorem vop_of {c : Ctx} {nx : Nat} {ρ : Operand → HV} {hp : Hp} {ty : Nat} {op : Op} {ef0 : Ef} (h : vop0 c nx ρ hp ty op = some ef0) : vop c nx ρ hp ty op = some ⟨norm ef0.hv, ef0.upd, ef0.nx, ef0.pre⟩ := by
  unfold vop; rw [h]
theorem vop_sound (hC : CtxOK P c) {ρ : Operand → HV} {ρv : Operand → Value} (hρ : ∀ x, HRel g loc (ρ x) (ρv x)) (hk : ∀ v, ρv (.const v) = v) (H : HeapRel w0 hp g loc w) (hn : loc nx = none) (hn1 : loc (nx + 1) = none) {o : Oper} {ef : Ef}
    (h : vop c nx ρ hp o.type o.op = some ef) (hpre : holds ef.pre) : OpWp P (OpPost w0 hp nx g loc ef) ((execOp ρv o).run P w) := by
  obtain ⟨ef0, h0, rfl⟩ := vop_some h
  refine (vop0_sound hC hρ hk H hn hn1 h0 hpre).mono ?_
  rintro v w' ⟨g', loc', h1, h2, h3, h4, h5⟩
  exact ⟨g', loc', h1, h2, h3, h4, norm_rel h5⟩
theorem s_loadV (hC : CtxOK P c) {ρ : Operand → HV} {ρv : Operand → Value} (hρ : ∀ x, HRel g loc (ρ x) (ρv x)) (H : HeapRel w0 hp g loc w) {t : Nat} {x : Operand} {ty : Nat} {ef : Ef}
    (h : vop c nx ρ hp ty (.load t x) = some ef) : ∃ v, (Instr.loadAt t (ρv x)).run P w = .ok v w ∧ ef.upd = [] ∧ ef.nx = nx ∧ HRel g loc ef.hv v := by
  obtain ⟨ef0, h0, rfl⟩ := vop_some h
  obtain ⟨v, h1, h2, h3, h4⟩ := s_load0 hC hρ H h0
  exact ⟨v, h1, h2, h3, norm_rel h4⟩
end
end Go.Vm
