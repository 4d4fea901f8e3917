/- What the evaluator makes of one operation is what the model does: part 2, operations that touch no object. -/
import Derived.Test.YtjcfnooplhoheaaVmK
noncomputable section
namespace Go.Vm
open Go

section
variable {P : Program} {c : Ctx} {g : Ghost} {loc : Loc} {w0 : Base} {w : World} {hp : Hp} {nx : Nat}

theorem tyOf_plain (hC : CtxOK P c) {t : Nat} {s : Sh} {z : Option Value} (h : tyOf c t = some (s, z)) : Plain P t s.size s.agg := by
  unfold tyOf at h
  split at h
  · rename_i s' hs
    simp only [Option.some.injEq, Prod.mk.injEq] at h
    obtain ⟨rfl, _⟩ := h
    exact (hC.tab _ _ hs).1.plain
  · split at h
    · rename_i z' hz
      simp only [Option.some.injEq, Prod.mk.injEq] at h
      obtain ⟨rfl, _⟩ := h
      exact (hC.refs _ _ hz).plain
    · cases h

/-- The zero value of a type. -/
theorem tyOf_zero (hC : CtxOK P c) {t : Nat} {s : Sh} {z : Option Value} (h : tyOf c t = some (s, z)) :
    ∃ zv, (∀ w, (zeroValue t).run P w = .ok zv w) ∧ zv.cells.size = s.size ∧ HC g loc (H0 z s) zv.cells.toList ∧ fits s (H0 z s) = true := by
  unfold tyOf at h
  split at h
  · rename_i s' hs
    simp only [Option.some.injEq, Prod.mk.injEq] at h
    obtain ⟨rfl, rfl⟩ := h
    obtain ⟨hl, hd⟩ := hC.tab _ _ hs
    obtain ⟨i, h1, _, h3, _⟩ := hl.ty
    have hz := HC.zero g loc none s' hd
    have e : (mkV s'.agg (zcells s')).cells.toList = zcells s' := by
      have h4 := Rel.zero g s' hd
      have h5 : HRel g loc (.dat s' (D0 s')) (mkV s'.agg (zcells s')) := HRel.dat_iff.2 ⟨_, h4, rfl⟩
      cases hs2 : s'.agg with
      | true => simp [mkV, Value.cells]
      | false =>
        have h6 := h4.length
        have h7 := Sh.size_one hs2
        have h8 := h4.one
        match hz2 : zcells s', h6, h8 with
        | [v], _, h8 =>
          have := h8 v (by simp)
          cases v <;> simp_all [mkV, Value.cells, Value.oneCell']
        | [], h6, _ => simp at h6; omega
        | _ :: _ :: _, h6, _ => simp at h6; omega
    refine ⟨_, run_zero ⟨i, h1, h3⟩, ?_, by rw [e]; exact hz.1, hz.2⟩
    rw [← Array.length_toList, e]
    exact (Rel.zero g s' hd).length
  · split at h
    · rename_i z' hz
      simp only [Option.some.injEq, Prod.mk.injEq] at h
      obtain ⟨rfl, rfl⟩ := h
      obtain ⟨⟨i, h1, h2, h3⟩, h4, _⟩ := hC.refs _ _ hz
      have e : z'.cells = #[z'] := by cases z' <;> simp_all [Value.cells, Value.oneCell']
      refine ⟨_, run_zero ⟨i, h1, h3⟩, by rw [e]; rfl, ?_, by simp [H0, fits, Sh.size, Sh.agg]⟩
      rw [e]
      simp only [H0, HC]
      exact ⟨trivial, h4⟩
    · cases h

theorem run_eqGuard_other (op : BinOp) (t : TypeId) (x y : Operand) (a b : Value) (h1 : ∀ cs, a ≠ .agg cs) (h2 : a ≠ .nilIface) : (eqGuard op t x y a b).run P w = .ok () w := by
  cases op <;> first | rfl | (cases a <;> first | exact absurd rfl (h1 _) | exact absurd rfl h2 | rfl | (cases b <;> rfl))

theorem unary_sound {k : IntKind} {d : D} :
    ((Op.unary .neg (.int k d.int)).run P w = .ok (.int k (k.wrap (0 - d.int))) w) ∧
    ((Op.unary .xor (.int k d.int)).run P w = .ok (.int k (bitsOp .xor k (if k.signed then -1 else k.max) d.int)) w) := by
  constructor
  · simp only [Op.unary, Op.intArith]; rfl
  · simp only [Op.unary, Op.intBits]; rfl

theorem HVs_get : ∀ {hs : List HV} {vs : List Value} {i : Nat} {h : HV}, HVs g loc hs vs → hs[i]? = some h → ∃ v, vs[i]? = some v ∧ HRel g loc h v
  | [], [], i, h, _, hi => by simp at hi
  | h0 :: hs, v0 :: vs, 0, h, hv, hi => by
    simp only [HVs] at hv
    simp at hi; subst hi
    refine ⟨v0, rfl, ?_⟩
    obtain ⟨⟨us, h1, h2⟩, _⟩ := hv
    cases h0 with
    | tup l => simp only [HC] at h1
    | und => exact trivial
    | _ => exact ⟨us, h1, h2⟩
  | h0 :: hs, v0 :: vs, i + 1, h, hv, hi => by
    simp only [HVs] at hv
    obtain ⟨v, h1, h2⟩ := HVs_get hv.2 (i := i) (h := h) (by simpa using hi)
    exact ⟨v, by simpa using h1, h2⟩
  | [], _ :: _, _, _, h, _ => by simp [HVs] at h
  | _ :: _, [], _, _, h, _ => by simp [HVs] at h

theorem HVs_map {ρ : Operand → HV} {ρv : Operand → Value} (hρ : ∀ x, HRel g loc (ρ x) (ρv x)) : ∀ (xs : List Operand), allStorable (xs.map ρ) = true → HVs g loc (xs.map ρ) (xs.map ρv)
  | [], _ => by simp only [List.map_nil, HVs]
  | x :: xs, h => by
    simp only [List.map_cons, allStorable, Bool.and_eq_true] at h
    simp only [List.map_cons, HVs]
    refine ⟨?_, HVs_map hρ xs h.2⟩
    have := hρ x
    generalize ρ x = hx at *
    cases hx with
    | tup l => simp [HV.isFn] at h
    | und => simp [HV.isFn] at h
    | _ => exact this

theorem navs_snoc : ∀ {p : List PS} {r s s1 : Sh} {q : PS} {off o1 : Nat}, r.navs p = some (s, off) → s.step q = some (s1, o1) → r.navs (p ++ [q]) = some (s1, off + o1)
  | [], r, s, s1, q, off, o1, h, h1 => by
    simp only [Sh.navs, Option.some.injEq, Prod.mk.injEq] at h
    obtain ⟨rfl, rfl⟩ := h
    simp [Sh.navs, h1]
  | p :: ps, r, s, s1, q, off, o1, h, h1 => by
    simp only [Sh.navs] at h
    split at h
    · rename_i s2 o2 h2
      split at h
      · rename_i s3 o3 h3
        simp only [Option.some.injEq, Prod.mk.injEq] at h
        obtain ⟨rfl, rfl⟩ := h
        simp only [List.cons_append, Sh.navs, h2, navs_snoc h3 h1]
        simp [Nat.add_assoc]
      · cases h
    · cases h

theorem inPath_snoc : ∀ {p : List PS} {r s : Sh} {q : PS} {off : Nat}, r.navs p = some (s, off) → r.inPath p → s.inStep q → r.inPath (p ++ [q])
  | [], r, s, q, off, h, _, h1 => by
    simp only [Sh.navs, Option.some.injEq, Prod.mk.injEq] at h
    obtain ⟨rfl, rfl⟩ := h
    simp only [List.nil_append, Sh.inPath]
    exact ⟨h1, fun _ _ _ => trivial⟩
  | p :: ps, r, s, q, off, h, hi, h1 => by
    simp only [Sh.navs] at h
    split at h
    · rename_i s2 o2 h2
      split at h
      · rename_i s3 o3 h3
        simp only [Option.some.injEq, Prod.mk.injEq] at h
        obtain ⟨rfl, rfl⟩ := h
        simp only [List.cons_append, Sh.inPath] at hi ⊢
        refine ⟨hi.1, fun s' o hs => ?_⟩
        have := hi.2 s' o hs
        rw [h2] at hs
        simp only [Option.some.injEq, Prod.mk.injEq] at hs
        obtain ⟨rfl, rfl⟩ := hs
        exact inPath_snoc h3 this h1
      · cases h
    · cases h

theorem HRel.ptr {o : Nat} {r s : Sh} {p : List PS} {v : Value} (h : HRel g loc (.ptr o r p s) v) : ∃ b cap len off, loc o = some (.at b cap len r) ∧ r.navs p = some (s, off) ∧ r.inPath p ∧ v = .pointer (some ⟨b, off, none⟩) := by
  obtain ⟨us, h1, rfl⟩ := h
  simp only [HC] at h1
  obtain ⟨b, cap, len, off, h2, h3, h4, rfl⟩ := h1
  exact ⟨b, cap, len, off, h2, h3, h4, rfl⟩
theorem HRel.ptr_mk {o : Nat} {r s : Sh} {p : List PS} {b cap len off : Nat} (h1 : loc o = some (.at b cap len r)) (h2 : r.navs p = some (s, off)) (h3 : r.inPath p) : HRel g loc (.ptr o r p s) (.pointer (some ⟨b, off, none⟩)) := by
  show ∃ us, HC g loc (.ptr o r p s) us ∧ _ = mkV _ us
  exact ⟨[.pointer (some ⟨b, off, none⟩)], by simp only [HC]; exact ⟨b, cap, len, off, h1, h2, h3, rfl⟩, rfl⟩

theorem HRel.gptr {s : Sh} {d : D} {v : Value} (h : HRel g loc (.gptr s d) v) : ∃ b off cs T fr, g b = some (.cells cs T fr) ∧ off + s.size ≤ cs.size ∧ Rel g s d (chunk cs.toList off s.size) ∧ v = .pointer (some ⟨b, off, none⟩) := by
  obtain ⟨us, h1, rfl⟩ := h
  simp only [HC] at h1
  obtain ⟨b, off, cs, T, fr, h2, h3, h4, rfl⟩ := h1
  exact ⟨b, off, cs, T, fr, h2, h3, h4, rfl⟩
theorem HRel.gptr_mk {s : Sh} {d : D} {b off : Nat} {cs : Array Value} {T : TypeId} {fr : Nat × Nat} (h1 : g b = some (.cells cs T fr)) (h2 : off + s.size ≤ cs.size) (h3 : Rel g s d (chunk cs.toList off s.size)) :
    HRel g loc (.gptr s d) (.pointer (some ⟨b, off, none⟩)) := by
  show ∃ us, HC g loc (.gptr s d) us ∧ _ = mkV _ us
  exact ⟨[.pointer (some ⟨b, off, none⟩)], by simp only [HC]; exact ⟨b, off, cs, T, fr, h1, h2, h3, rfl⟩, rfl⟩

/-- A field's address. -/
theorem run_fieldAt {t i b off : Nat} {ss : List Sh} {s1 : Sh} {o1 : Nat} (hl : Lay P (.struct ss) t) (hs : (Sh.struct ss).step (.fld i) = some (s1, o1)) (w : World) :
    (Instr.fieldAt t (.pointer (some ⟨b, off, none⟩)) i).run P w = .ok (.pointer (some ⟨b, off + o1, none⟩)) w := by
  simp only [Lay] at hl
  obtain ⟨_, ⟨fs, hu, hls⟩, _⟩ := hl
  simp only [Sh.step] at hs
  split at hs
  · rename_i s2 hs2
    simp only [Option.some.injEq, Prod.mk.injEq] at hs
    obtain ⟨rfl, rfl⟩ := hs
    obtain ⟨f, hf, hoff, hpos, hlf⟩ := lays_get P hls hs2
    have hf' : fs[i]? = some f := by simpa using hf
    simp only [Instr.fieldAt, Sem.run_bind, run_underlying hu, Result.andThen_ok, hf', Instr.sureAddr, Sem.run_pure, fieldPlace, run_size hlf.plain]
    rw [if_neg (by omega)]
    simp only [Sem.run_pure, Result.andThen_ok, addr_add, hoff, Nat.zero_add]
  · cases hs

theorem step_fld {s s1 : Sh} {i o1 : Nat} (h : s.step (.fld i) = some (s1, o1)) : ∃ ss, s = .struct ss ∧ ss[i]? = some s1 ∧ o1 = Sh.sizes (ss.take i) := by
  cases s <;> simp [Sh.step] at h
  rename_i ss
  split at h
  · rename_i s2 hs2
    simp only [Option.some.injEq, Prod.mk.injEq] at h
    exact ⟨ss, rfl, by rw [hs2, h.1], h.2.symm⟩
  · cases h

/-- An element's address in an array. -/
theorem run_indexAt_arr {t n b off : Nat} {s1 : Sh} {k : IntKind} {i : Int} (hl : Lay P (.arr n s1) t) (h0 : 0 ≤ i) (h1 : i < n) (w : World) :
    (Instr.indexAt t (.pointer (some ⟨b, off, none⟩)) (.int k i)).run P w = .ok (.pointer (some ⟨b, off + i.toNat * s1.size, none⟩)) w := by
  simp only [Lay] at hl
  obtain ⟨_, ⟨e, hu, hle⟩, _⟩ := hl
  simp [Instr.indexAt, asIntOf, run_underlying hu, Instr.sureAddr, h0, h1, run_size hle.plain, addr_add]

/-- An element's address in a slice. -/
theorem run_indexAt_slice {t n cap b off : Nat} {s1 : Sh} {k : IntKind} {i : Int} (hl : Lay P (.slice s1) t) (h0 : 0 ≤ i) (h1 : i < n) (w : World) :
    (Instr.indexAt t (.slice (some ⟨b, off, none⟩) n cap) (.int k i)).run P w = .ok (.pointer (some ⟨b, off + i.toNat * s1.size, none⟩)) w := by
  simp only [Lay] at hl
  obtain ⟨_, e, hu, hle⟩ := hl
  simp [Instr.indexAt, asIntOf, run_underlying hu, h0, h1, run_size hle.plain, addr_add]
end
end Go.Vm
