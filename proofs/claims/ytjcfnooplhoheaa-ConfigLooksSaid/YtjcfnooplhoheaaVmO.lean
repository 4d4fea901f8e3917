/- What the evaluator makes of one operation is what the model does: part 5, and all of them together. -/
import Derived.Test.YtjcfnooplhoheaaVmN
noncomputable section
namespace Go.Vm
open Go

theorem HeapRel.congr {w0 : Base} {w : World} {hp hp' : Hp} {g : Ghost} {loc : Loc} (he : ∀ o, lk hp' o = lk hp o) (H : HeapRel w0 hp g loc w) : HeapRel w0 hp' g loc w where
  obj := fun o vo h => H.obj o vo (by rw [← he]; exact h)
  inj := fun o o' vo vo' b x x' h h' => H.inj o o' vo vo' b x x' (by rw [← he]; exact h) (by rw [← he]; exact h')
  ghost := H.ghost
  sep := fun o vo b x h => H.sep o vo b x (by rw [← he]; exact h)
  low := fun o vo b x h => H.low o vo b x (by rw [← he]; exact h)
  ext := H.ext
  size := H.size
  old := H.old
  still := H.still

section
variable {P : Program} {c : Ctx} {g : Ghost} {loc : Loc} {w0 : Base} {w : World} {hp : Hp} {nx : Nat}

theorem replicate_getD (n j : Nat) (d : D) (h : j < n) : (List.replicate n d).getD j .Z = d := by simp [List.getD_eq_getElem?_getD, h]

theorem range_mod_cells (n : Nat) (z : Array Value) : ((Array.range (n * z.size)).map (z[· % z.size]!)).toList = (List.replicate n z.toList).flatten := by
  simp only [Array.toList_map, Array.toList_range]
  induction n with
  | zero => simp
  | succ n ih =>
    rw [List.replicate_succ', List.flatten_append, ← ih, Nat.add_mul, Nat.one_mul, List.range_add, List.map_append]
    congr 1
    simp only [List.map_map, List.flatten_cons, List.flatten_nil, List.append_nil]
    apply List.ext_getElem?
    intro i
    by_cases hi : i < z.size
    · simp [hi, Nat.mod_eq_of_lt hi]
    · simp [hi]

theorem rel_replicate {s : Sh} (hd : s.data = true) (n : Nat) : ∀ j, j < (List.replicate n (D0 s)).length → Rel g s ((List.replicate n (D0 s)).getD j .Z) (chunk (List.replicate n (zcells s)).flatten (j * s.size) s.size) := by
  intro j hj
  simp only [List.length_replicate] at hj
  have hz := Rel.zero g s hd
  rw [replicate_getD _ _ _ hj, ← hz.length, flatten_chunk _ _ _ hj]
  exact hz

theorem zero_cells {s : Sh} (hd : s.data = true) : (mkV s.agg (zcells s)).cells.toList = zcells s := by
  have h4 := Rel.zero (fun _ => none) s hd
  cases hs2 : s.agg with
  | true => simp [mkV, Value.cells]
  | false =>
    have h6 := h4.length
    have h7 := Sh.size_one hs2
    have h8 := h4.one
    match hz2 : zcells s, h6, h8 with
    | [v], _, h8 =>
      have := h8 v (by simp)
      cases v <;> simp_all [mkV, Value.cells, Value.oneCell']
    | [], h6, _ => simp at h6; omega
    | _ :: _ :: _, h6, _ => simp at h6; omega

theorem putElems_len {ρ : Operand → HV} {s : Sh} : ∀ {ps : List (Nat × Operand)} {xs ys : List D}, vop0.putElems ρ s xs ps = some ys → ys.length = xs.length
  | [], xs, ys, h => by simp only [vop0.putElems, Option.some.injEq] at h; rw [h]
  | (i, x) :: rest, xs, ys, h => by
    simp only [vop0.putElems] at h
    split at h
    · split at h
      · have := putElems_len h; simpa using this
      · cases h
    · cases h

theorem fill_elems {ρ : Operand → HV} {ρv : Operand → Value} (hρ : ∀ x, HRel g loc (ρ x) (ρv x)) {s : Sh} : ∀ (ps : List (Nat × Operand)) (xs ys : List D) (cells : Array Value), vop0.putElems ρ s xs ps = some ys →
    cells.size = xs.length * s.size → (∀ j, j < xs.length → Rel g s (xs.getD j .Z) (chunk cells.toList (j * s.size) s.size)) →
    ∃ cells', Instr.fill (fun i => some (i * s.size, s.size)) cells (ps.map fun p => (p.1, ρv p.2)) = some cells' ∧ cells'.size = ys.length * s.size ∧ ∀ j, j < ys.length → Rel g s (ys.getD j .Z) (chunk cells'.toList (j * s.size) s.size)
  | [], xs, ys, cells, h, h1, h2 => by
    simp only [vop0.putElems, Option.some.injEq] at h; subst h
    exact ⟨cells, rfl, h1, h2⟩
  | (i, x) :: rest, xs, ys, cells, h, h1, h2 => by
    simp only [vop0.putElems] at h
    split at h
    · rename_i s' d hrx
      split at h
      · rename_i hc
        simp only [Bool.and_eq_true] at hc
        have := Sh.beq_eq hc.1; subst this
        have hi : i < xs.length := by
          have h9 : i + 1 ≤ xs.length := by have := hc.2; simpa [Nat.blt] using this
          omega
        have hx := hρ x
        rw [hrx] at hx
        have hcx := HRel.cells (h := .dat s' d) hx
        simp only [HC] at hcx
        have hlx := hcx.length
        have hb : i * s'.size + s'.size ≤ xs.length * s'.size := by
          calc i * s'.size + s'.size = (i + 1) * s'.size := by rw [Nat.add_mul, Nat.one_mul]
            _ ≤ _ := Nat.mul_le_mul_right _ hi
        obtain ⟨cells', k1, k2⟩ := fill_cons (fun i => some (i * s'.size, s'.size)) cells i (ρv x) (rest.map fun p => (p.1, ρv p.2)) rfl (by simpa using hlx) (by omega)
        have hl' : cells'.size = xs.length * s'.size := by
          rw [← Array.length_toList, k1, splice_length _ _ _ (by rw [hlx, Array.length_toList]; omega), Array.length_toList]; exact h1
        obtain ⟨c2, m1, m2, m3⟩ := fill_elems hρ rest (xs.set i d) ys cells' h (by simpa using hl') (by
          intro j hj
          simp only [List.length_set] at hj
          rw [k1]
          by_cases hji : j = i
          · subst hji
            have e1 : (xs.set j d).getD j .Z = d := by simp [List.getD_eq_getElem?_getD, hj]
            rw [e1]
            have := chunk_splice_same cells.toList (ρv x).cells.toList (j * s'.size) (by rw [hlx, Array.length_toList]; omega)
            rw [hlx] at this
            rw [this]; exact hcx
          · have e1 : (xs.set i d).getD j .Z = xs.getD j .Z := by simp [List.getD_eq_getElem?_getD, Ne.symm hji]
            rw [e1, chunk_splice_other]
            · exact h2 j hj
            · rw [hlx, Array.length_toList]; omega
            · rw [hlx]
              rcases Nat.lt_or_gt_of_ne hji with hlt | hgt
              · left
                calc j * s'.size + s'.size = (j + 1) * s'.size := by rw [Nat.add_mul, Nat.one_mul]
                  _ ≤ _ := Nat.mul_le_mul_right _ hlt
              · right
                calc i * s'.size + s'.size = (i + 1) * s'.size := by rw [Nat.add_mul, Nat.one_mul]
                  _ ≤ _ := Nat.mul_le_mul_right _ hgt)
        refine ⟨c2, ?_, m2, m3⟩
        simp only [List.map_cons]
        rw [k2]; exact m1
      · cases h
    · cases h

theorem own_mk {b cap len : Nat} {o : Nat} {s : Sh} (h : loc o = some (.at b cap len (.arr len s))) : HRel g loc (.own o s) (.slice (some ⟨b, 0, none⟩) len cap) := by
  show ∃ us, HC g loc (.own o s) us ∧ _ = mkV _ us
  exact ⟨[.slice (some ⟨b, 0, none⟩) len cap], by simp only [HC]; exact .inr ⟨b, cap, len, h, rfl⟩, rfl⟩

theorem s_build (hC : CtxOK P c) {ρ : Operand → HV} {ρv : Operand → Value} (hρ : ∀ x, HRel g loc (ρ x) (ρv x)) (H : HeapRel w0 hp g loc w) {t : Nat} {ps : Array (Nat × Operand)} {ty : Nat} {ef : Ef}
    (h : vop0 c nx ρ hp ty (.build t ps) = some ef) : ∃ v, (Instr.build t (ps.map fun (i, x) => (i, ρv x))).run P w = .ok v w ∧ OpPost w0 hp nx g loc ef v w := by
  simp only [vop0] at h
  split at h
  · rename_i ss hty
    split at h
    · rename_i fs hfs
      simp only [Option.some.injEq] at h; subst h
      obtain ⟨hl, hd⟩ := hC.tab _ _ hty
      obtain ⟨v, h1, h2⟩ := run_build_struct (P := P) (g := g) (loc := loc) hl (by simpa [Sh.data] using hd) (fun p _ => hρ p.2) hfs w
      exact ⟨v, h1, OpPost.pure H h2⟩
    · cases h
  · rename_i n s hty
    split at h
    · rename_i xs hxs
      simp only [Option.some.injEq] at h; subst h
      obtain ⟨hl, hd⟩ := hC.tab _ _ hty
      have hl0 := hl
      simp only [Lay] at hl
      obtain ⟨⟨i, hi1, hi2, hi3, _⟩, ⟨e, hu, hle⟩, _⟩ := hl
      have hz := Rel.zero g (.arr n s) hd
      have hlen := putElems_len hxs
      simp only [List.length_replicate] at hlen
      have hzc : (mkV (Sh.arr n s).agg (zcells (.arr n s))).cells.toList = zcells (.arr n s) := by simp [Sh.agg, mkV, Value.cells]
      have hz2 := hz
      simp only [Rel] at hz2
      obtain ⟨cells', k1, k2, k3⟩ := fill_elems hρ ps.toList (List.replicate n (D0 s)) xs (mkV (Sh.arr n s).agg (zcells (.arr n s))).cells hxs (by rw [← Array.length_toList, hzc, hz2.1, List.length_replicate]) (by
        intro j hj
        simp only [List.length_replicate] at hj
        rw [replicate_getD _ _ _ hj, hzc]
        have := hz2.2 j hj
        simpa [D0, D.nth] using this)
      refine ⟨.agg cells', ?_, OpPost.pure H (HRel.dat_iff.2 ⟨cells'.toList, ?_, by simp [Sh.agg, mkV]⟩)⟩
      · have e1 : (ps.map fun (x : Nat × Operand) => (x.1, ρv x.2)).toList = ps.toList.map fun p => (p.1, ρv p.2) := by simp
        simp only [Instr.build, Sem.run_bind, run_zero (P := P) ⟨i, hi1, hi3⟩, Result.andThen_ok, run_underlying hu, run_size hle.plain, e1, k1, Sem.run_pure]
      · simp only [Rel]
        refine ⟨by rw [Array.length_toList, k2, hlen], fun j hj => ?_⟩
        have := k3 j (by omega)
        simpa [D.nth] using this
    · cases h
  · cases h

theorem HCs_ref : ∀ {fs : List HV} {vs : List Value}, vs.length = fs.length → (∀ (k : Nat) h, fs[k]? = some h → ∃ v, vs[k]? = some v ∧ HC g loc h [v]) → HCs g loc (List.replicate fs.length .ref) fs vs
  | [], [], _, _ => by simp [HCs]
  | f :: fs, v :: vs, hl, h => by
    simp only [List.length_cons, List.replicate_succ, HCs, Sh.size, List.take_succ_cons, List.take_zero, List.drop_succ_cons, List.drop_zero]
    obtain ⟨v', h1, h2⟩ := h 0 f rfl
    simp only [List.getElem?_cons_zero, Option.some.injEq] at h1
    subst h1
    exact ⟨by omega, h2, HCs_ref (by simpa using hl) fun k h' hk => by simpa using h (k + 1) h' (by simpa using hk)⟩
  | [], _ :: _, hl, _ => by simp at hl
  | _ :: _, [], hl, _ => by simp at hl
theorem fill_vec {ρ : Operand → HV} {ρv : Operand → Value} (hρ : ∀ x, HRel g loc (ρ x) (ρv x)) : ∀ (ps : List (Nat × Operand)) (j : Nat) (hs : List HV) (cells : Array Value), vecArgs ρ ps j = some hs → j + hs.length ≤ cells.size →
    ∃ cells' : Array Value, Instr.fill (fun i => some (i * 1, 1)) cells (ps.map fun p => (p.1, ρv p.2)) = some cells' ∧ cells'.size = cells.size ∧ (∀ i, i < j → cells'[i]? = cells[i]?) ∧ ∀ (k : Nat) h, hs[k]? = some h → ∃ v, cells'[j + k]? = some v ∧ HC g loc h [v]
  | [], j, hs, cells, h, _ => by
    simp only [vecArgs, Option.some.injEq] at h; subst h
    exact ⟨cells, rfl, rfl, fun _ _ => rfl, fun k h hk => by simp at hk⟩
  | (i, x) :: ps, j, hs, cells, h, hsz => by
    simp only [vecArgs] at h
    split at h
    · rename_i hb
      simp only [Bool.and_eq_true] at hb
      have := Nat.eq_of_beq_eq_true hb.1; subst this
      split at h
      · rename_i hs' hhs
        simp only [Option.some.injEq] at h; subst h
        simp only [List.length_cons] at hsz
        obtain ⟨y1, y2, y3⟩ := oneCell_of hb.2 (hρ x)
        simp only [Sh.size] at y2
        obtain ⟨v, hv⟩ : ∃ v, (ρv x).cells = #[v] := by
          match hc : (ρv x).cells.toList, (show (ρv x).cells.toList.length = 1 by simpa using y2) with
          | [v], _ => exact ⟨v, by rw [← Array.toList_inj, hc]⟩
        obtain ⟨cells', k1, k2, k3, k4⟩ := fill_vec hρ ps (i + 1) hs' (cells.setIfInBounds i v) hhs (by simp; omega)
        refine ⟨cells', ?_, by simpa using k2, fun l hl => ?_, fun k h hk => ?_⟩
        · simp only [List.map_cons, Instr.fill, hv]
          rw [if_neg (by simp; omega)]
          simpa using k1
        · rw [k3 l (by omega), Array.getElem?_setIfInBounds, if_neg (by omega)]
        · cases k with
          | zero =>
            simp only [List.getElem?_cons_zero, Option.some.injEq] at hk
            subst hk
            refine ⟨v, ?_, by rw [hv] at y1; exact y1⟩
            rw [Nat.add_zero, k3 i (by omega), Array.getElem?_setIfInBounds]
            simp; omega
          | succ k =>
            obtain ⟨v', h1, h2⟩ := k4 k h (by simpa using hk)
            exact ⟨v', by rw [show i + (k + 1) = i + 1 + k by omega]; exact h1, h2⟩
      · cases h
    · cases h

theorem s_buildSlice (hC : CtxOK P c) {ρ : Operand → HV} {ρv : Operand → Value} (hρ : ∀ x, HRel g loc (ρ x) (ρv x)) (H : HeapRel w0 hp g loc w) (hn : loc nx = none) {t n : Nat} {ps : Array (Nat × Operand)} {ty : Nat} {ef : Ef}
    (h : vop0 c nx ρ hp ty (.buildSlice t n ps) = some ef) : ∃ v w', (Instr.buildSlice t n (ps.map fun (i, x) => (i, ρv x))).run P w = .ok v w' ∧ OpPost w0 hp nx g loc ef v w' := by
  simp only [vop0] at h
  split at h
  · rename_i s hty
    split at h
    · rename_i xs hxs
      split at h
      · rename_i hle
        simp only [Option.some.injEq] at h; subst h
        obtain ⟨hl, hd⟩ := hC.tab _ _ hty
        simp only [Lay] at hl
        obtain ⟨_, e, hu, hle'⟩ := hl
        have hds : s.data = true := by simpa [Sh.data] using hd
        obtain ⟨i, hi1, hi2, hi3, _⟩ := hle'.ty
        have hzl := (Rel.zero g s hds).length
        have hz0 := zero_cells hds
        have hzsz : (mkV s.agg (zcells s)).cells.size = s.size := by rw [← Array.length_toList, hz0, hzl]
        have hlen := putElems_len hxs
        simp only [List.length_replicate] at hlen
        simp only [Bool.and_eq_true] at hle
        have hbound := Nat.le_of_ble_eq_true hle.1
        have hbound2 := Nat.le_of_ble_eq_true hle.2
        -- the cells at the beginning
        obtain ⟨z, hz, hzs, hzc⟩ : ∃ z : Array Value, ((n * s.size = 0 ∧ z = #[]) ∨ (n * s.size ≠ 0 ∧ z = (mkV s.agg (zcells s)).cells)) ∧ ((Array.range (n * s.size)).map (z[· % z.size]!)).size = n * s.size ∧
            ∀ j, j < n → Rel g s (D0 s) (chunk ((Array.range (n * s.size)).map (z[· % z.size]!)).toList (j * s.size) s.size) := by
          by_cases h0 : n * s.size = 0
          · refine ⟨#[], .inl ⟨h0, rfl⟩, by simp, fun j hj => ?_⟩
            have hs0 : s.size = 0 := by
              rcases Nat.mul_eq_zero.1 h0 with h0 | h0
              · omega
              · exact h0
            have : zcells s = [] := List.length_eq_zero_iff.1 (by rw [hzl, hs0])
            have hz := Rel.zero g s hds
            rw [this] at hz
            simp only [hs0, chunk, List.take_zero]; exact hz
          · refine ⟨(mkV s.agg (zcells s)).cells, .inr ⟨h0, rfl⟩, by simp, fun j hj => ?_⟩
            have := range_mod_cells n (mkV s.agg (zcells s)).cells
            rw [hzsz, hz0] at this
            rw [hzsz, this, ← hzl, flatten_chunk _ _ _ hj]
            exact Rel.zero g s hds
        obtain ⟨cells', k1, k2, k3⟩ := fill_elems hρ ps.toList _ xs ((Array.range (n * s.size)).map (z[· % z.size]!)) hxs (by simp) (by
          intro j hj
          simp only [List.length_replicate] at hj
          rw [replicate_getD _ _ _ hj]
          exact hzc j hj)
        refine ⟨.slice (some ⟨w.heap.size, 0, none⟩) n n, w.alloc (.cells cells' e), ?_, g, loc.upd nx (.at w.heap.size n n (.arr n s)), Ghost.le_refl g, Loc.le_upd hn, fun o ho => Loc.upd_other (by simp only at ho; omega), ?_, own_mk Loc.upd_same⟩
        · simp only [Instr.buildSlice, Sem.run_bind, run_underlying hu, Result.andThen_ok, run_size hle'.plain]
          rw [if_neg (by omega)]
          have e1 : (ps.map fun (x : Nat × Operand) => (x.1, ρv x.2)).toList = ps.toList.map fun p => (p.1, ρv p.2) := by simp
          rcases hz with ⟨h0, rfl⟩ | ⟨h0, rfl⟩
          · rw [if_pos h0]
            simp only [Sem.run_pure, Result.andThen_ok, Sem.run_bind, e1, k1, newRow, run_newObj]
            rfl
          · rw [if_neg h0]
            simp only [Sem.run_pure, Result.andThen_ok, Sem.run_bind, e1, run_zero (P := P) ⟨i, hi1, hi3⟩, k1, newRow, run_newObj]
            rfl
        · refine H.new hn (ExtAll.alloc _ _) _ _ (by intro b hb; simp only [Place.blk, Option.some.injEq] at hb; omega) ?_
          right
          rw [hlen]
          exact ⟨w.heap.size, n, e, cells', Loc.upd_same, heap_alloc_new _ _, by rw [k2, hlen], by omega, fun j hj => k3 j (by omega)⟩
      · cases h
    · cases h
  · split at h
    · rename_i hmt
      split at h
      · rename_i fs hfs
        split at h
        · rename_i hb
          simp only [Bool.and_eq_true] at hb
          have hn1 := Nat.eq_of_beq_eq_true hb.1
          have hn2 := Nat.le_of_ble_eq_true hb.2
          subst hn1
          simp only [Option.some.injEq] at h; subst h
          obtain ⟨e, z, hu, hz⟩ := hC.maps _ _ hmt
          obtain ⟨⟨i, hi1, hi2, hi3⟩, _⟩ := id hz
          -- the cells at the beginning
          obtain ⟨z0, hz0⟩ : ∃ z0 : Array Value, (fs.length * 1 = 0 ∧ z0 = #[]) ∨ (fs.length * 1 ≠ 0 ∧ z0 = z.cells) := by
            by_cases h0 : fs.length * 1 = 0
            · exact ⟨#[], .inl ⟨h0, rfl⟩⟩
            · exact ⟨z.cells, .inr ⟨h0, rfl⟩⟩
          obtain ⟨cells', k1, k2, _, k4⟩ := fill_vec hρ ps.toList 0 fs ((Array.range (fs.length * 1)).map (z0[· % z0.size]!)) hfs (by simp)
          refine ⟨.slice (some ⟨w.heap.size, 0, none⟩) fs.length fs.length, w.alloc (.cells cells' e), ?_, g, loc.upd nx (.at w.heap.size fs.length fs.length (.arr fs.length .ref)), Ghost.le_refl g, Loc.le_upd hn, fun o ho => Loc.upd_other (by simp only at ho; omega), ?_, ?_⟩
          · have e1 : (ps.map fun (x : Nat × Operand) => (x.1, ρv x.2)).toList = ps.toList.map fun p => (p.1, ρv p.2) := by simp
            simp only [Instr.buildSlice, Sem.run_bind, run_underlying hu, Result.andThen_ok, run_size hz.plain]
            rw [if_neg (by omega)]
            rcases hz0 with ⟨h0, rfl⟩ | ⟨h0, rfl⟩
            · rw [if_pos h0]
              simp only [Sem.run_pure, Result.andThen_ok, Sem.run_bind, e1, k1, newRow, run_newObj]
              rfl
            · rw [if_neg h0]
              simp only [Sem.run_pure, Result.andThen_ok, Sem.run_bind, e1, run_zero (P := P) ⟨i, hi1, hi3⟩, k1, newRow, run_newObj]
              rfl
          · refine H.new hn (ExtAll.alloc _ _) _ _ (by intro b hb; simp only [Place.blk, Option.some.injEq] at hb; omega) ?_
            refine ⟨w.heap.size, e, cells', Loc.upd_same, heap_alloc_new _ _, HCs_ref (by simp [k2]) fun k h hk => ?_⟩
            obtain ⟨v, h1, h2⟩ := k4 k h hk
            rw [Nat.zero_add] at h1
            exact ⟨v, by simpa using h1, h2.mono (Ghost.le_refl g) (Loc.le_upd hn)⟩
          · refine ⟨[.slice (some ⟨w.heap.size, 0, none⟩) fs.length fs.length], ?_, rfl⟩
            simp only [HC]
            exact .inr ⟨_, _, _, Loc.upd_same, rfl⟩
        · cases h
      · cases h
    · cases h
  · cases h
end
end Go.Vm
