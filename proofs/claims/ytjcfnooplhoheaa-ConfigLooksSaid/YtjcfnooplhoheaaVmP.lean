/- What the evaluator makes of one operation is what the model does: all of them. -/
import Derived.Test.YtjcfnooplhoheaaVmO
noncomputable section
namespace Go.Vm
open Go

section
variable {P : Program} {c : Ctx} {g : Ghost} {loc : Loc} {w0 : Base} {w : World} {hp : Hp} {nx : Nat}

theorem HRel.own {o : Nat} {s : Sh} {v : Value} (h : HRel g loc (.own o s) v) : (loc o = some .nil ∧ ∃ a, v = .slice a 0 0) ∨ ∃ b cap len, loc o = some (.at b cap len (.arr len s)) ∧ v = .slice (some ⟨b, 0, none⟩) len cap := by
  obtain ⟨us, h1, h2⟩ := h
  simp only [HC] at h1
  rcases h1 with ⟨e1, a, rfl⟩ | ⟨b, cap, len, e1, rfl⟩
  · exact .inl ⟨e1, a, h2⟩
  · exact .inr ⟨b, cap, len, e1, h2⟩

theorem HRel.cst {v v' : Value} (h : HRel g loc (.cst v) v') : v' = v := by
  obtain ⟨us, h1, h2⟩ := h
  simp only [HC] at h1
  obtain ⟨rfl, _⟩ := h1
  exact h2

theorem s_makeSlice (hC : CtxOK P c) {ρ : Operand → HV} {ρv : Operand → Value} (hρ : ∀ x, HRel g loc (ρ x) (ρv x)) (H : HeapRel w0 hp g loc w) (hn : loc nx = none) {t : Nat} {l k : Operand} {ty : Nat} {ef : Ef}
    (h : vop0 c nx ρ hp ty (.makeSlice t l k) = some ef) (hpre : holds ef.pre) : ∃ v w', (Instr.makeSlice t (ρv l) (ρv k)).run P w = .ok v w' ∧ OpPost w0 hp nx g loc ef v w' := by
  simp only [vop0] at h
  have hl := hρ l
  have hk := hρ k
  split at h
  · rename_i s kk a kk' b hty hrl hrk
    rw [hrl] at hl; rw [hrk] at hk
    simp only [Option.some.injEq] at h; subst h
    simp only [holds] at hpre
    obtain ⟨hp1, hp2, hp3⟩ := hpre
    obtain ⟨hlay, hd⟩ := hC.tab _ _ hty
    simp only [Lay] at hlay
    obtain ⟨_, e, hu, hle⟩ := hlay
    have hds : s.data = true := by simpa [Sh.data] using hd
    obtain ⟨i, hi1, hi2, hi3, hi4⟩ := hle.ty
    rw [hl.int.1, hk.int.1]
    have wa : IntKind.i64.wrap a.int = a.int := by simp only [IntKind.wrap, IntKind.signed, IntKind.bits]; simp; omega
    have wb : IntKind.i64.wrap b.int = b.int := by simp only [IntKind.wrap, IntKind.signed, IntKind.bits]; simp; omega
    have hbig : ∀ n : Int, 0 ≤ n → n ≤ 1073741824 → ((decide (n < 0) || decide ((i.bytes : Int) * n > 2 ^ 48)) = false) := by
      intro n h1 h2
      have : (i.bytes : Int) * n ≤ 65536 * 1073741824 := Int.mul_le_mul (by omega) h2 h1 (by omega)
      simp only [Bool.or_eq_false_iff, decide_eq_false_iff_not]
      constructor
      · omega
      · have e : (2 : Int) ^ 48 = 281474976710656 := by decide
        rw [e]; omega
    have hz0 := zero_cells hds
    have hzl := (Rel.zero g s hds).length
    have hzsz : (mkV s.agg (zcells s)).cells.size = s.size := by rw [← Array.length_toList, hz0, hzl]
    obtain ⟨z, hz, hzs, hzc⟩ : ∃ z : Array Value, ((b.int.toNat * s.size = 0 ∧ z = #[]) ∨ (b.int.toNat * s.size ≠ 0 ∧ z = (mkV s.agg (zcells s)).cells)) ∧ ((Array.range (b.int.toNat * s.size)).map (z[· % z.size]!)).size = b.int.toNat * s.size ∧
        ∀ j, j < b.int.toNat → Rel g s (D0 s) (chunk ((Array.range (b.int.toNat * s.size)).map (z[· % z.size]!)).toList (j * s.size) s.size) := by
      by_cases h0 : b.int.toNat * s.size = 0
      · refine ⟨#[], .inl ⟨h0, rfl⟩, by simp, fun j hj => ?_⟩
        have hs0 : s.size = 0 := by
          rcases Nat.mul_eq_zero.1 h0 with h0 | h0
          · omega
          · exact h0
        have : zcells s = [] := List.length_eq_zero_iff.1 (by rw [hzl, hs0])
        have hz := Rel.zero g s hds
        rw [this] at hz
        simp only [hs0, chunk, List.take_zero]; exact hz
      · refine ⟨(mkV s.agg (zcells s)).cells, .inr ⟨h0, rfl⟩, by simp, fun j hj => ?_⟩
        have := range_mod_cells b.int.toNat (mkV s.agg (zcells s)).cells
        rw [hzsz, hz0] at this
        rw [hzsz, this, ← hzl, flatten_chunk _ _ _ hj]
        exact Rel.zero g s hds
    refine ⟨.slice (some ⟨w.heap.size, 0, none⟩) a.int.toNat b.int.toNat, w.alloc (.cells ((Array.range (b.int.toNat * s.size)).map (z[· % z.size]!)) e), ?_, g, loc.upd nx (.at w.heap.size b.int.toNat a.int.toNat (.arr a.int.toNat s)), Ghost.le_refl g,
      Loc.le_upd hn, fun o ho => Loc.upd_other (by simp only at ho; omega), ?_, own_mk Loc.upd_same⟩
    · have hti : ∀ w, (typeInfo e).run P w = .ok i w := fun w => by simp [typeInfo, hi1]
      simp only [Instr.makeSlice, Sem.run_bind, run_underlying hu, Result.andThen_ok, asInt, asIntOf, Sem.run_pure, hti, wa, wb]
      rw [if_neg (by
        rw [hbig _ (by omega) hp3]
        simp only [Bool.false_or, Bool.or_eq_true, decide_eq_true_eq, not_or]
        omega)]
      simp only [Sem.run_bind, run_askRoom, Result.andThen_ok, run_size hle.plain]
      rcases hz with ⟨h0, rfl⟩ | ⟨h0, rfl⟩
      · rw [if_pos h0]
        simp only [Sem.run_pure, Result.andThen_ok, Sem.run_bind, newRow, run_newObj]
        rfl
      · rw [if_neg h0]
        simp only [Sem.run_pure, Result.andThen_ok, Sem.run_bind, run_zero (P := P) ⟨i, hi1, hi3⟩, newRow, run_newObj]
        rfl
    · refine H.new hn (ExtAll.alloc _ _) _ _ (by intro b hb; simp only [Place.blk, Option.some.injEq] at hb; omega) ?_
      right
      simp only [List.length_replicate]
      refine ⟨w.heap.size, b.int.toNat, e, _, Loc.upd_same, heap_alloc_new _ _, hzs, by omega, fun j hj => ?_⟩
      rw [replicate_getD _ _ _ hj]
      exact hzc j (by omega)
  · cases h

theorem s_len (hC : CtxOK P c) {ρ : Operand → HV} {ρv : Operand → Value} (hρ : ∀ x, HRel g loc (ρ x) (ρv x)) (H : HeapRel w0 hp g loc w) {args : Array Operand} {tys : Array TypeId} {ty : Nat} {ef : Ef}
    (h : vop0 c nx ρ hp ty (.call { callee := .builtin .len, args, argTypes := tys }) = some ef) (hpre : holds ef.pre) : ∃ v, (Builtin.len_ tys ty (args.map ρv)).run P w = .ok v w ∧ OpPost w0 hp nx g loc ef v w := by
  simp only [vop0] at h
  split at h
  · rename_i x t hargs htys
    have ha : args = #[x] := by rw [← Array.toList_inj]; exact hargs
    have ht : tys = #[t] := by rw [← Array.toList_inj]; exact htys
    subst ha; subst ht
    have hx := hρ x
    have i64b : ∀ n : Nat, n ≤ 9223372036854775807 → IntKind.i64.min ≤ (n : Int) ∧ (n : Int) ≤ IntKind.i64.max := by
      intro n hn
      have e1 : IntKind.i64.min = -9223372036854775808 := by decide
      have e2 : IntKind.i64.max = 9223372036854775807 := by decide
      omega
    split at h
    · rename_i s d s' hrx hty
      rw [hrx] at hx
      simp only [Option.some.injEq] at h; subst h
      simp only [holds] at hpre
      have hl := (hC.tab _ _ hty).1
      simp only [Lay] at hl
      obtain ⟨_, e, hu, _⟩ := hl
      obtain ⟨us, h1, h2⟩ := HRel.dat_iff.1 hx
      have hlen := h1.inR
      simp only [InR] at hlen
      simp only [Rel] at h1
      obtain ⟨a, cap, rfl, _⟩ := h1
      simp only [Sh.agg, mkV, List.headD_cons] at h2
      refine ⟨_, ?_, OpPost.pure H (HRel.int_mk (i64b _ hlen.1).1 (i64b _ hlen.1).2)⟩
      simp [Builtin.len_, run_underlying hu, h2, goInt]
    · rename_i o s s' hrx hty
      rw [hrx] at hx
      split at h
      · rename_i s0 xs ho
        simp only [Option.some.injEq] at h; subst h
        simp only [holds] at hpre
        have hl := (hC.tab _ _ hty).1
        simp only [Lay] at hl
        obtain ⟨_, e, hu, _⟩ := hl
        have hlen : xs.length ≤ 9223372036854775807 := by
          rcases H.obj o _ ho with ⟨_, rfl⟩ | ⟨_, _, _, _, _, _, _, k4, _⟩
          · simp
          · omega
        refine ⟨_, ?_, OpPost.pure H (HRel.int_mk (i64b _ hlen).1 (i64b _ hlen).2)⟩
        rcases H.obj o _ ho with ⟨k1, rfl⟩ | ⟨b, cap, T, cs, k1, k2, k3, k4, k5⟩
        · rcases hx.own with ⟨_, a, hv⟩ | ⟨b', cap', len', e1, _⟩
          · simp [Builtin.len_, run_underlying hu, hv, goInt]
          · rw [k1] at e1; cases e1
        · rcases hx.own with ⟨e1, _⟩ | ⟨b', cap', len', e1, hv⟩
          · rw [k1] at e1; cases e1
          · rw [k1] at e1
            simp only [Option.some.injEq, Place.at.injEq] at e1
            obtain ⟨rfl, rfl, rfl, _⟩ := e1
            simp [Builtin.len_, run_underlying hu, hv, goInt]
      · rename_i s0 xs ho
        simp only [Option.some.injEq] at h; subst h
        simp only [holds] at hpre
        have hl := (hC.tab _ _ hty).1
        simp only [Lay] at hl
        obtain ⟨_, e, hu, _⟩ := hl
        have hlen : xs.length ≤ 9223372036854775807 := by
          rcases H.obj o _ ho with ⟨_, rfl⟩ | ⟨_, _, _, _, _, _, _, k4, _⟩
          · simp
          · omega
        refine ⟨_, ?_, OpPost.pure H (HRel.int_mk (i64b _ hlen).1 (i64b _ hlen).2)⟩
        rcases H.obj o _ ho with ⟨k1, rfl⟩ | ⟨b, cap, T, cs, k1, k2, k3, k4, k5⟩
        · rcases hx.own with ⟨_, a, hv⟩ | ⟨b', cap', len', e1, _⟩
          · simp [Builtin.len_, run_underlying hu, hv, goInt]
          · rw [k1] at e1; cases e1
        · rcases hx.own with ⟨e1, _⟩ | ⟨b', cap', len', e1, hv⟩
          · rw [k1] at e1; cases e1
          · rw [k1] at e1
            simp only [Option.some.injEq, Place.at.injEq] at e1
            obtain ⟨rfl, rfl, rfl, _⟩ := e1
            simp [Builtin.len_, run_underlying hu, hv, goInt]
      · cases h
    · rename_i o s0 hrx hty
      rw [hrx] at hx
      split at h
      · rename_i fs hmt ho
        simp only [Option.some.injEq] at h; subst h
        simp only [holds] at hpre
        obtain ⟨e, z, hu, hz⟩ := hC.maps _ _ hmt
        obtain ⟨b, T, vs, k1, k2, k3⟩ := H.obj o _ ho
        refine ⟨_, ?_, OpPost.pure H (HRel.int_mk (i64b _ (by omega)).1 (i64b _ (by omega)).2)⟩
        rcases hx.own with ⟨e1, _⟩ | ⟨b', cap', len', e1, hv⟩
        · rw [k1] at e1; cases e1
        · rw [k1] at e1
          simp only [Option.some.injEq, Place.at.injEq] at e1
          obtain ⟨rfl, rfl, rfl, _⟩ := e1
          simp [Builtin.len_, run_underlying hu, hv, goInt]
      · cases h
    · rename_i o ks0 vs0 hrx hty
      rw [hrx] at hx
      split at h
      · rename_i ks' vs' ks vs es hmt ho
        simp only [Option.some.injEq] at h; subst h
        simp only [holds] at hpre
        obtain ⟨kt, e, hu, _⟩ := hC.maps _ _ hmt
        obtain ⟨b, arr, k1, k2, k3⟩ := H.obj o _ ho
        refine ⟨_, ?_, OpPost.pure H (HRel.int_mk (i64b _ hpre).1 (i64b _ hpre).2)⟩
        obtain ⟨us, h1, h2⟩ := hx
        simp only [HC] at h1
        obtain ⟨b', e1, rfl⟩ := h1
        rw [k1] at e1
        simp only [Option.some.injEq, Place.obj.injEq] at e1
        subst e1
        have hl := k3.length
        simp only [Array.length_toList] at hl
        have hv : ρv x = .map (some b) := by rw [h2]; rfl
        simp [Builtin.len_, run_underlying hu, hv, goInt, MapKept.run_getObj_map k2, hl]
      · cases h
    · rename_i n s' _ _ _ _ hty
      split at h
      · rename_i hn
        simp only [Option.some.injEq] at h; subst h
        have hl := (hC.tab _ _ hty).1
        simp only [Lay] at hl
        obtain ⟨_, ⟨e, hu, _⟩, _⟩ := hl
        have hn' := Nat.le_of_ble_eq_true hn
        refine ⟨_, ?_, OpPost.pure H (HRel.int_mk (i64b _ (Nat.le_trans hn' (by decide))).1 (i64b _ (Nat.le_trans hn' (by decide))).2)⟩
        simp [Builtin.len_, run_underlying hu, goInt]
      · cases h
    · cases h
  · cases h

theorem s_max {ρ : Operand → HV} {ρv : Operand → Value} (hρ : ∀ x, HRel g loc (ρ x) (ρv x)) (H : HeapRel w0 hp g loc w) {args : Array Operand} {tys : Array TypeId} {ty : Nat} {ef : Ef}
    (h : vop0 c nx ρ hp ty (.call { callee := .builtin .max, args, argTypes := tys }) = some ef) : ∃ v, (Builtin.max_ tys ty (args.map ρv)).run P w = .ok v w ∧ OpPost w0 hp nx g loc ef v w := by
  simp only [vop0] at h
  split at h
  · rename_i x y hargs
    have ha : args = #[x, y] := by rw [← Array.toList_inj]; exact hargs
    subst ha
    have hx := hρ x
    have hy := hρ y
    split at h
    · rename_i k a k' b hrx hry
      rw [hrx] at hx; rw [hry] at hy
      split at h
      · rename_i hk
        simp only [decide_eq_true_eq] at hk; subst hk
        simp only [Option.some.injEq] at h; subst h
        obtain ⟨ex, x1, x2⟩ := hx.int
        obtain ⟨ey, y1, y2⟩ := hy.int
        refine ⟨.int k (if b.int > a.int then b.int else a.int), ?_, OpPost.pure H (HRel.int_mk (by split <;> assumption) (by split <;> assumption))⟩
        simp [Builtin.max_, ex, ey, Builtin.max2]
      · cases h
    · cases h
  · cases h

theorem s_min {ρ : Operand → HV} {ρv : Operand → Value} (hρ : ∀ x, HRel g loc (ρ x) (ρv x)) (H : HeapRel w0 hp g loc w) {args : Array Operand} {tys : Array TypeId} {ty : Nat} {ef : Ef}
    (h : vop0 c nx ρ hp ty (.call { callee := .builtin .min, args, argTypes := tys }) = some ef) : ∃ v, (Builtin.min_ tys ty (args.map ρv)).run P w = .ok v w ∧ OpPost w0 hp nx g loc ef v w := by
  simp only [vop0] at h
  split at h
  · rename_i x y hargs
    have ha : args = #[x, y] := by rw [← Array.toList_inj]; exact hargs
    subst ha
    have hx := hρ x
    have hy := hρ y
    split at h
    · rename_i k a k' b hrx hry
      rw [hrx] at hx; rw [hry] at hy
      split at h
      · rename_i hk
        simp only [decide_eq_true_eq] at hk; subst hk
        simp only [Option.some.injEq] at h; subst h
        obtain ⟨ex, x1, x2⟩ := hx.int
        obtain ⟨ey, y1, y2⟩ := hy.int
        refine ⟨.int k (if b.int < a.int then b.int else a.int), ?_, OpPost.pure H (HRel.int_mk (by split <;> assumption) (by split <;> assumption))⟩
        simp [Builtin.min_, ex, ey, Builtin.min2]
      · cases h
    · cases h
  · cases h

theorem elems_of (H : HeapRel w0 hp g loc w) {s : Sh} {h : HV} {d : D} {v : Value} (ha : argD hp (.slice s) h = some d) (hr : HRel g loc h v) : Elems P g w s d.list v := by
  cases h with
  | dat s' e =>
    simp only [argD] at ha
    split at ha
    · rename_i hb
      simp only [Option.some.injEq] at ha; subst ha
      have := Sh.beq_eq hb; subst this
      exact Elems.dat (loc := loc) H.ghost hr
    · cases ha
  | own o s' =>
    simp only [argD] at ha
    split at ha
    · rename_i hb
      split at ha
      · rename_i s2 xs ho
        split at ha
        · rename_i hb2
          simp only [Option.some.injEq] at ha; subst ha
          have := Sh.beq_eq hb; subst this
          have := Sh.beq_eq hb2; subst this
          exact Elems.own (H.obj o _ ho) hr
        · cases ha
      · rename_i s2 xs ho
        split at ha
        · rename_i hb2
          simp only [Option.some.injEq] at ha; subst ha
          have := Sh.beq_eq hb; subst this
          have := Sh.beq_eq hb2; subst this
          exact Elems.dat (loc := loc) H.ghost (froz_hrel H ho hr)
        · cases ha
      · cases ha
    · cases ha
  | cst v' =>
    simp only [argD] at ha
    split at ha
    · rename_i hn
      simp only [Option.some.injEq] at ha; subst ha
      rw [hr.cst, isNil_eq hn]
      exact Elems.nil
    · cases ha
  | _ => simp [argD] at ha

theorem s_append (hC : CtxOK P c) {ρ : Operand → HV} {ρv : Operand → Value} (hρ : ∀ x, HRel g loc (ρ x) (ρv x)) (H : HeapRel w0 hp g loc w) (hn : loc nx = none) (hn1 : loc (nx + 1) = none) {args : Array Operand} {tys : Array TypeId} {ty : Nat} {ef : Ef}
    (h : vop0 c nx ρ hp ty (.call { callee := .builtin .append, args, argTypes := tys }) = some ef) (hpre : holds ef.pre) : ∃ v w', (Builtin.append_ tys ty (args.map ρv)).run P w = .ok v w' ∧ OpPost w0 hp nx g loc ef v w' := by
  simp only [vop0] at h
  split at h
  · rename_i x y t t' hargs htys
    have ha : args = #[x, y] := by rw [← Array.toList_inj]; exact hargs
    have ht : tys = #[t, t'] := by rw [← Array.toList_inj]; exact htys
    subst ha; subst ht
    have hx := hρ x
    have hy := hρ y
    split at h
    · rename_i s s' hty hty'
      have hl := (hC.tab _ _ hty).1
      have hd := (hC.tab _ _ hty).2
      have hl' := (hC.tab _ _ hty').1
      simp only [Lay] at hl'
      obtain ⟨_, e', hu', _⟩ := hl'
      have hds : s.data = true := by simpa [Sh.data] using hd
      split at h
      · rename_i e hb he
        have hyE := elems_of (P := P) H he hy
        split at h
        · rename_i o s1 hrx
          rw [hrx] at hx
          split at h
          · rename_i s2 xs hb1 ho
            split at h
            · rename_i hb2
              have := Sh.beq_eq hb1; subst this
              have := Sh.beq_eq hb2; subst this
              simp only [Option.some.injEq] at h; subst h
              simp only [holds] at hpre
              obtain ⟨v', w', x', h1, h2, h3⟩ := append_run (ty := ty) hl hu' hds (tys := #[t, t']) rfl rfl H hn ho hx hyE hpre
              exact ⟨v', w', by simpa using h1, g, _, Ghost.le_refl g, Loc.le_upd hn, fun o ho => Loc.upd_other (by simp only at ho; omega), h2, h3⟩
            · cases h
          · cases h
        · rename_i v0 hrx
          rw [hrx] at hx
          split at h
          · rename_i hnl
            simp only [Option.some.injEq] at h; subst h
            simp only [holds] at hpre
            have H1 : HeapRel w0 ((nx, .grow s []) :: hp) g (loc.upd nx .nil) w := H.new hn (ExtAll.refl w) .nil (.grow s []) (by intro b hb; simp [Place.blk] at hb) (.inl ⟨Loc.upd_same, rfl⟩)
            have hn2 : (loc.upd nx .nil) (nx + 1) = none := by rw [Loc.upd_other (by omega)]; exact hn1
            have hv : HRel g (loc.upd nx .nil) (.own nx s) (ρv x) := by
              rw [hx.cst, isNil_eq hnl]
              show ∃ us, HC g _ (.own nx s) us ∧ _ = mkV _ us
              exact ⟨[.slice none 0 0], by simp only [HC]; exact .inl ⟨Loc.upd_same, none, rfl⟩, rfl⟩
            obtain ⟨v', w', x', h1, h2, h3⟩ := append_run (ty := ty) hl hu' hds (tys := #[t, t']) rfl rfl H1 (nx := nx + 1) hn2 (lk_same _ _ _) hv hyE (by simpa using hpre)
            refine ⟨v', w', by simpa using h1, g, _, Ghost.le_refl g, Loc.le_trans (Loc.le_upd hn) (Loc.le_upd hn2), fun o ho => by simp only at ho; rw [Loc.upd_other (by omega), Loc.upd_other (by omega)], ?_, h3⟩
            refine HeapRel.congr (fun o => ?_) h2
            simp only [List.cons_append, List.nil_append, lk_cons]
            split
            · rfl
            · split
              · rfl
              · rfl
          · cases h
        · cases h
      · cases h
    · cases h
  · cases h

end
end Go.Vm
