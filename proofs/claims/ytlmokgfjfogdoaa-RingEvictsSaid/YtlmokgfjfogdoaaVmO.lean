/- What the evaluator makes of one operation is what the model does: part 5, and all of them together. -/
import Derived.Test.YtlmokgfjfogdoaaVmN
noncomputable section
namespace Go.Vm
open Go

theorem HeapRel.congr {w0 : Base} {w : World} {hp hp' : Hp} {g : Ghost} {loc : Loc} (he : ∀ o, lk hp' o = lk hp o) (H : HeapRel w0 hp g loc w) : HeapRel w0 hp' g loc w where
  obj := fun o vo h => H.obj o vo (by rw [← he]; exact h)
  inj := fun o o' vo vo' b x x' h h' => H.inj o o' vo vo' b x x' (by rw [← he]; exact h) (by rw [← he]; exact h')
  ghost := H.ghost
  sep := fun o vo b x h => H.sep o vo b x (by rw [← he]; exact h)
  low := fun o vo b x h => H.low o vo b x (by rw [← he]; exact h)
  ext := H.ext
  size := H.size
  old := H.old
  still := H.still

section
variable {P : Program} {c : Ctx} {g : Ghost} {loc : Loc} {w0 : Base} {w : World} {hp : Hp} {nx : Nat}

theorem s_build (hC : CtxOK P c) {ρ : Operand → HV} {ρv : Operand → Value} (hρ : ∀ x, HRel g loc (ρ x) (ρv x)) (H : HeapRel w0 hp g loc w) {t : Nat} {ps : Array (Nat × Operand)} {ty : Nat} {ef : Ef}
    (h : vop0 c nx ρ hp ty (.build t ps) = some ef) : ∃ v, (Instr.build t (ps.map fun (i, x) => (i, ρv x))).run P w = .ok v w ∧ OpPost w0 hp nx g loc ef v w := by
  simp only [vop0] at h
  split at h
  · rename_i ss hty
    split at h
    · rename_i fs hfs
      simp only [Option.some.injEq] at h; subst h
      obtain ⟨hl, hd⟩ := hC.tab _ _ hty
      obtain ⟨v, h1, h2⟩ := run_build_struct (P := P) (g := g) (loc := loc) hl (by simpa [Sh.data] using hd) (fun p _ => hρ p.2) hfs w
      exact ⟨v, h1, OpPost.pure H h2⟩
    · cases h
  · cases h

theorem replicate_getD (n j : Nat) (d : D) (h : j < n) : (List.replicate n d).getD j .Z = d := by simp [List.getD_eq_getElem?_getD, h]

theorem range_mod_cells (n : Nat) (z : Array Value) : ((Array.range (n * z.size)).map (z[· % z.size]!)).toList = (List.replicate n z.toList).flatten := by
  simp only [Array.toList_map, Array.toList_range]
  induction n with
  | zero => simp
  | succ n ih =>
    rw [List.replicate_succ', List.flatten_append, ← ih, Nat.add_mul, Nat.one_mul, List.range_add, List.map_append]
    congr 1
    simp only [List.map_map, List.flatten_cons, List.flatten_nil, List.append_nil]
    apply List.ext_getElem?
    intro i
    by_cases hi : i < z.size
    · simp [hi, Nat.mod_eq_of_lt hi]
    · simp [hi]

theorem rel_replicate {s : Sh} (hd : s.data = true) (n : Nat) : ∀ j, j < (List.replicate n (D0 s)).length → Rel g s ((List.replicate n (D0 s)).getD j .Z) (chunk (List.replicate n (zcells s)).flatten (j * s.size) s.size) := by
  intro j hj
  simp only [List.length_replicate] at hj
  have hz := Rel.zero g s hd
  rw [replicate_getD _ _ _ hj, ← hz.length, flatten_chunk _ _ _ hj]
  exact hz

theorem zero_cells {s : Sh} (hd : s.data = true) : (mkV s.agg (zcells s)).cells.toList = zcells s := by
  have h4 := Rel.zero (fun _ => none) s hd
  cases hs2 : s.agg with
  | true => simp [mkV, Value.cells]
  | false =>
    have h6 := h4.length
    have h7 := Sh.size_one hs2
    have h8 := h4.one
    match hz2 : zcells s, h6, h8 with
    | [v], _, h8 =>
      have := h8 v (by simp)
      cases v <;> simp_all [mkV, Value.cells, Value.oneCell']
    | [], h6, _ => simp at h6; omega
    | _ :: _ :: _, h6, _ => simp at h6; omega

theorem putElems_len {ρ : Operand → HV} {s : Sh} : ∀ {ps : List (Nat × Operand)} {xs ys : List D}, vop0.putElems ρ s xs ps = some ys → ys.length = xs.length
  | [], xs, ys, h => by simp only [vop0.putElems, Option.some.injEq] at h; rw [h]
  | (i, x) :: rest, xs, ys, h => by
    simp only [vop0.putElems] at h
    split at h
    · split at h
      · have := putElems_len h; simpa using this
      · cases h
    · cases h

theorem fill_elems {ρ : Operand → HV} {ρv : Operand → Value} (hρ : ∀ x, HRel g loc (ρ x) (ρv x)) {s : Sh} : ∀ (ps : List (Nat × Operand)) (xs ys : List D) (cells : Array Value), vop0.putElems ρ s xs ps = some ys →
    cells.size = xs.length * s.size → (∀ j, j < xs.length → Rel g s (xs.getD j .Z) (chunk cells.toList (j * s.size) s.size)) →
    ∃ cells', Instr.fill (fun i => some (i * s.size, s.size)) cells (ps.map fun p => (p.1, ρv p.2)) = some cells' ∧ cells'.size = ys.length * s.size ∧ ∀ j, j < ys.length → Rel g s (ys.getD j .Z) (chunk cells'.toList (j * s.size) s.size)
  | [], xs, ys, cells, h, h1, h2 => by
    simp only [vop0.putElems, Option.some.injEq] at h; subst h
    exact ⟨cells, rfl, h1, h2⟩
  | (i, x) :: rest, xs, ys, cells, h, h1, h2 => by
    simp only [vop0.putElems] at h
    split at h
    · rename_i s' d hrx
      split at h
      · rename_i hc
        simp only [Bool.and_eq_true] at hc
        have := Sh.beq_eq hc.1; subst this
        have hi : i < xs.length := by
          have h9 : i + 1 ≤ xs.length := by have := hc.2; simpa [Nat.blt] using this
          omega
        have hx := hρ x
        rw [hrx] at hx
        have hcx := HRel.cells (h := .dat s' d) hx
        simp only [HC] at hcx
        have hlx := hcx.length
        have hb : i * s'.size + s'.size ≤ xs.length * s'.size := by
          calc i * s'.size + s'.size = (i + 1) * s'.size := by rw [Nat.add_mul, Nat.one_mul]
            _ ≤ _ := Nat.mul_le_mul_right _ hi
        obtain ⟨cells', k1, k2⟩ := fill_cons (fun i => some (i * s'.size, s'.size)) cells i (ρv x) (rest.map fun p => (p.1, ρv p.2)) rfl (by simpa using hlx) (by omega)
        have hl' : cells'.size = xs.length * s'.size := by
          rw [← Array.length_toList, k1, splice_length _ _ _ (by rw [hlx, Array.length_toList]; omega), Array.length_toList]; exact h1
        obtain ⟨c2, m1, m2, m3⟩ := fill_elems hρ rest (xs.set i d) ys cells' h (by simpa using hl') (by
          intro j hj
          simp only [List.length_set] at hj
          rw [k1]
          by_cases hji : j = i
          · subst hji
            have e1 : (xs.set j d).getD j .Z = d := by simp [List.getD_eq_getElem?_getD, hj]
            rw [e1]
            have := chunk_splice_same cells.toList (ρv x).cells.toList (j * s'.size) (by rw [hlx, Array.length_toList]; omega)
            rw [hlx] at this
            rw [this]; exact hcx
          · have e1 : (xs.set i d).getD j .Z = xs.getD j .Z := by simp [List.getD_eq_getElem?_getD, Ne.symm hji]
            rw [e1, chunk_splice_other]
            · exact h2 j hj
            · rw [hlx, Array.length_toList]; omega
            · rw [hlx]
              rcases Nat.lt_or_gt_of_ne hji with hlt | hgt
              · left
                calc j * s'.size + s'.size = (j + 1) * s'.size := by rw [Nat.add_mul, Nat.one_mul]
                  _ ≤ _ := Nat.mul_le_mul_right _ hlt
              · right
                calc i * s'.size + s'.size = (i + 1) * s'.size := by rw [Nat.add_mul, Nat.one_mul]
                  _ ≤ _ := Nat.mul_le_mul_right _ hgt)
        refine ⟨c2, ?_, m2, m3⟩
        simp only [List.map_cons]
        rw [k2]; exact m1
      · cases h
    · cases h

theorem own_mk {b cap len : Nat} {o : Nat} {s : Sh} (h : loc o = some (.at b cap len (.arr len s))) : HRel g loc (.own o s) (.slice (some ⟨b, 0, none⟩) len cap) := by
  show ∃ us, HC g loc (.own o s) us ∧ _ = mkV _ us
  exact ⟨[.slice (some ⟨b, 0, none⟩) len cap], by simp only [HC]; exact .inr ⟨b, cap, len, h, rfl⟩, rfl⟩

theorem s_buildSlice (hC : CtxOK P c) {ρ : Operand → HV} {ρv : Operand → Value} (hρ : ∀ x, HRel g loc (ρ x) (ρv x)) (H : HeapRel w0 hp g loc w) (hn : loc nx = none) {t n : Nat} {ps : Array (Nat × Operand)} {ty : Nat} {ef : Ef}
    (h : vop0 c nx ρ hp ty (.buildSlice t n ps) = some ef) : ∃ v w', (Instr.buildSlice t n (ps.map fun (i, x) => (i, ρv x))).run P w = .ok v w' ∧ OpPost w0 hp nx g loc ef v w' := by
  simp only [vop0] at h
  split at h
  · rename_i s hty
    split at h
    · rename_i xs hxs
      split at h
      · rename_i hle
        simp only [Option.some.injEq] at h; subst h
        obtain ⟨hl, hd⟩ := hC.tab _ _ hty
        simp only [Lay] at hl
        obtain ⟨_, e, hu, hle'⟩ := hl
        have hds : s.data = true := by simpa [Sh.data] using hd
        obtain ⟨i, hi1, hi2, hi3, _⟩ := hle'.ty
        have hzl := (Rel.zero g s hds).length
        have hz0 := zero_cells hds
        have hzsz : (mkV s.agg (zcells s)).cells.size = s.size := by rw [← Array.length_toList, hz0, hzl]
        have hlen := putElems_len hxs
        simp only [List.length_replicate] at hlen
        simp only [Bool.and_eq_true] at hle
        have hbound := Nat.le_of_ble_eq_true hle.1
        have hbound2 := Nat.le_of_ble_eq_true hle.2
        -- the cells at the beginning
        obtain ⟨z, hz, hzs, hzc⟩ : ∃ z : Array Value, ((n * s.size = 0 ∧ z = #[]) ∨ (n * s.size ≠ 0 ∧ z = (mkV s.agg (zcells s)).cells)) ∧ ((Array.range (n * s.size)).map (z[· % z.size]!)).size = n * s.size ∧
            ∀ j, j < n → Rel g s (D0 s) (chunk ((Array.range (n * s.size)).map (z[· % z.size]!)).toList (j * s.size) s.size) := by
          by_cases h0 : n * s.size = 0
          · refine ⟨#[], .inl ⟨h0, rfl⟩, by simp, fun j hj => ?_⟩
            have hs0 : s.size = 0 := by
              rcases Nat.mul_eq_zero.1 h0 with h0 | h0
              · omega
              · exact h0
            have : zcells s = [] := List.length_eq_zero_iff.1 (by rw [hzl, hs0])
            have hz := Rel.zero g s hds
            rw [this] at hz
            simp only [hs0, chunk, List.take_zero]; exact hz
          · refine ⟨(mkV s.agg (zcells s)).cells, .inr ⟨h0, rfl⟩, by simp, fun j hj => ?_⟩
            have := range_mod_cells n (mkV s.agg (zcells s)).cells
            rw [hzsz, hz0] at this
            rw [hzsz, this, ← hzl, flatten_chunk _ _ _ hj]
            exact Rel.zero g s hds
        obtain ⟨cells', k1, k2, k3⟩ := fill_elems hρ ps.toList _ xs ((Array.range (n * s.size)).map (z[· % z.size]!)) hxs (by simp) (by
          intro j hj
          simp only [List.length_replicate] at hj
          rw [replicate_getD _ _ _ hj]
          exact hzc j hj)
        refine ⟨.slice (some ⟨w.heap.size, 0, none⟩) n n, w.alloc (.cells cells' e), ?_, g, loc.upd nx (.at w.heap.size n n (.arr n s)), Ghost.le_refl g, Loc.le_upd hn, fun o ho => Loc.upd_other (by simp only at ho; omega), ?_, own_mk Loc.upd_same⟩
        · simp only [Instr.buildSlice, Sem.run_bind, run_underlying hu, Result.andThen_ok, run_size hle'.plain]
          rw [if_neg (by omega)]
          have e1 : (ps.map fun (x : Nat × Operand) => (x.1, ρv x.2)).toList = ps.toList.map fun p => (p.1, ρv p.2) := by simp
          rcases hz with ⟨h0, rfl⟩ | ⟨h0, rfl⟩
          · rw [if_pos h0]
            simp only [Sem.run_pure, Result.andThen_ok, Sem.run_bind, e1, k1, newRow, run_newObj]
            rfl
          · rw [if_neg h0]
            simp only [Sem.run_pure, Result.andThen_ok, Sem.run_bind, e1, run_zero (P := P) ⟨i, hi1, hi3⟩, k1, newRow, run_newObj]
            rfl
        · refine H.new hn (ExtAll.alloc _ _) _ _ (by intro b hb; simp only [Place.blk, Option.some.injEq] at hb; omega) ?_
          right
          rw [hlen]
          exact ⟨w.heap.size, n, e, cells', Loc.upd_same, heap_alloc_new _ _, by rw [k2, hlen], by omega, fun j hj => k3 j (by omega)⟩
      · cases h
    · cases h
  · cases h
end
end Go.Vm
