/- What the evaluator makes of one operation is what the model does: slice expressions, maps. -/
import Derived.Test.YtjcfnooplhoheaaVmP
noncomputable section
namespace Go.Vm
open Go
set_option linter.unusedSimpArgs false

section
variable {P : Program} {c : Ctx} {g : Ghost} {loc : Loc} {w0 : Base} {w : World} {hp : Hp} {nx : Nat}

theorem run_sliceBound {v : Value} {k : IntKind} {i : Int} (hv : v = .int k i) {y : Nat} (h0 : 0 ≤ i) (h1 : i ≤ y) (code : BoundsCode) (w : World) : (Instr.sliceBound v y code).run P w = .ok i.toNat w := by
  subst hv
  simp only [Instr.sliceBound, asIntOf, Sem.run_bind, Sem.run_pure, Result.andThen_ok]
  rw [if_pos ⟨h0, h1⟩]
  simp only [Sem.run_pure]

theorem run_sliceBounds {ρ : Operand → HV} {ρv : Operand → Value} (hρ : ∀ x, HRel g loc (ρ x) (ρv x)) {lo hi : Option Operand} {n cap : Nat} {a b : Int} (ha : bnd ρ lo 0 = some a) (hb : bnd ρ hi n = some b) (h0 : 0 ≤ a) (h1 : a ≤ b) (h2 : b ≤ n) (hc : n ≤ cap) (w : World) :
    (Instr.sliceBounds true n cap (lo.map ρv) (hi.map ρv) none).run P w = .ok (a.toNat, b.toNat, cap) w := by
  have hval : ∀ {y : Operand} {m i : Int}, bnd ρ (some y) m = some i → ∃ k, ρv y = .int k i := by
    intro y m i h
    simp only [bnd] at h
    have hy := hρ y
    split at h
    · rename_i k d hr
      rw [hr] at hy
      simp only [Option.some.injEq] at h; subst h
      exact ⟨k, hy.int.1⟩
    · cases h
  have key : ∀ y : Nat, b.toNat = y → (match (lo.map ρv) with
      | some v => (Instr.sliceBound v y .sliceB : Sem Nat)
      | none => pure 0).run P w = .ok a.toNat w := by
    intro y hy
    cases lo with
    | none => simp only [bnd, Option.some.injEq] at ha; subst ha; rfl
    | some l =>
      obtain ⟨k, hk⟩ := hval ha
      simp only [Option.map_some]
      exact run_sliceBound hk h0 (by omega) _ w
  have hl := key b.toNat rfl
  cases hi with
  | none =>
    simp only [bnd, Option.some.injEq] at hb
    have e : b.toNat = n := by omega
    rw [e] at hl ⊢
    cases lo with
    | none =>
      simp only [bnd, Option.some.injEq] at ha; subst ha
      simp [Instr.sliceBounds]
    | some l =>
      simp only [Option.map_some] at hl
      simp [Instr.sliceBounds, hl]
  | some h =>
    obtain ⟨k, hk⟩ := hval hb
    have hh := run_sliceBound (P := P) hk (y := cap) (by omega) (by omega) .sliceAcap w
    cases lo with
    | none =>
      simp only [bnd, Option.some.injEq] at ha; subst ha
      simp [Instr.sliceBounds, hh]
    | some l =>
      simp only [Option.map_some] at hl
      simp [Instr.sliceBounds, hh, hl]

theorem rel_slice {s : Sh} {d : D} {a0 : Option Addr} {cap : Nat} {a b : Int} (h : Rel g (.slice s) d [.slice a0 d.list.length cap]) (h0 : 0 ≤ a) (h1 : a ≤ b) (h2 : b ≤ d.list.length) :
    d.list.length ≤ cap ∧ Rel g (.slice s) (.L ((d.list.drop a.toNat).take (b - a).toNat)) [.slice (if cap = a.toNat then a0 else a0.map (·.add (a.toNat * s.size))) (b.toNat - a.toNat) (cap - a.toNat)] := by
  simp only [Rel] at h
  obtain ⟨a1, cap1, e1, h⟩ := h
  simp only [List.cons.injEq, Value.slice.injEq, and_true, true_and] at e1
  obtain ⟨rfl, rfl⟩ := e1
  have e0 : ∀ xs : List D, (D.L xs).list = xs := fun _ => rfl
  have hl : ((d.list.drop a.toNat).take (b - a).toNat).length = b.toNat - a.toNat := by
    rw [List.length_take, List.length_drop]; omega
  have hget : ∀ j, j < b.toNat - a.toNat → ((d.list.drop a.toNat).take (b - a).toNat).getD j .Z = d.list.getD (a.toNat + j) .Z := by
    intro j hj
    rw [List.getD_eq_getElem?_getD, List.getD_eq_getElem?_getD, List.getElem?_take, if_pos (by omega), List.getElem?_drop]
  cases a0 with
  | none =>
    obtain ⟨h3, rfl⟩ := h
    have hz : d.list.length = 0 := by rw [h3]; rfl
    refine ⟨by omega, ?_⟩
    simp only [Rel, e0]
    refine ⟨none, 0, ?_, List.length_eq_zero_iff.1 (by rw [hl]; omega), rfl⟩
    rw [hl]
    simp
  | some a0 =>
    obtain ⟨h3, h⟩ := h
    have h3' : d.list.length ≤ cap ∧ d.list.length ≤ 9223372036854775807 := by clear h; omega
    clear h3
    by_cases hc : cap = a.toNat
    · clear h
      refine ⟨h3'.1, ?_⟩
      rw [if_pos hc]
      simp only [Rel, e0]
      exact ⟨some a0, cap - a.toNat, by rw [hl], by rw [hl]; omega, fun h => by omega⟩
    · have hpos : 0 < cap := by clear h; omega
      have hh := h hpos
      clear h
      obtain ⟨h4, cs, T, fr, h5, h6, h7⟩ := hh
      refine ⟨h3'.1, ?_⟩
      obtain ⟨b0, off0, spot0⟩ := a0
      simp only at h4 h5 h6 h7
      subst h4
      rw [if_neg hc]
      simp only [Rel, e0, Option.map_some, addr_add]
      have hm : a.toNat * s.size + (cap - a.toNat) * s.size = cap * s.size := by rw [← Nat.add_mul]; congr 1; omega
      refine ⟨some ⟨b0, off0 + a.toNat * s.size, none⟩, cap - a.toNat, by rw [hl], by rw [hl]; omega, fun _ => ⟨rfl, cs, T, fr, h5, ?_, fun j hj => ?_⟩⟩
      · show off0 + a.toNat * s.size + (cap - a.toNat) * s.size ≤ cs.size
        omega
      · rw [hl] at hj
        have hj2 : a.toNat + j < d.list.length := by omega
        rw [hget j hj]
        have := h7 (a.toNat + j) hj2
        rw [Nat.add_mul] at this
        show Rel g s _ (chunk cs.toList (off0 + a.toNat * s.size + j * s.size) s.size)
        rw [Nat.add_assoc]; exact this

theorem s_slice (hC : CtxOK P c) {ρ : Operand → HV} {ρv : Operand → Value} (hρ : ∀ x, HRel g loc (ρ x) (ρv x)) (H : HeapRel w0 hp g loc w) (hn : loc nx = none) {t : Nat} {x : Operand} {lo hi mx : Option Operand} {ty : Nat} {ef : Ef}
    (h : vop0 c nx ρ hp ty (.slice t x lo hi mx) = some ef) (hpre : holds ef.pre) : ∃ v w', (Instr.sliceAt t (ρv x) (lo.map ρv) (hi.map ρv) (mx.map ρv)).run P w = .ok v w' ∧ OpPost w0 hp nx g loc ef v w' := by
  simp only [vop0] at h
  have hx := hρ x
  split at h
  · rename_i s1 hty
    obtain ⟨hl, hd⟩ := hC.tab _ _ hty
    simp only [Lay] at hl
    obtain ⟨_, e, hu, hle⟩ := hl
    split at h
    · split at h
      · rename_i s d hrx
        rw [hrx] at hx
        split at h
        · rename_i a b hb ha hbb
          have := Sh.beq_eq hb; subst this
          simp only [Option.some.injEq] at h; subst h
          simp only [holds] at hpre
          obtain ⟨p0, p1, p2⟩ := hpre
          obtain ⟨us, h1, h2⟩ := HRel.dat_iff.1 hx
          have h1' := h1
          simp only [Rel] at h1
          obtain ⟨a0, cap, rfl, _⟩ := h1
          obtain ⟨r1, r2⟩ := rel_slice h1' p0 p1 p2
          have hsb := run_sliceBounds (P := P) hρ ha hbb p0 p1 p2 r1 w
          have hv : ρv x = .slice a0 d.list.length cap := by rw [h2]; rfl
          refine ⟨_, w, ?_, OpPost.pure H (HRel.dat_iff.2 ⟨_, r2, rfl⟩)⟩
          rw [hv]
          simp only [Instr.sliceAt, Instr.slice, Sem.run_bind, run_underlying hu, Result.andThen_ok, Option.map_none, hsb, run_size hle.plain, Sem.run_pure]
          rfl
        · cases h
      · rename_i o s hrx
        rw [hrx] at hx
        have run : ∀ (xs : List D) (a b : Int) (g' : Ghost), Sh.beq s s1 = true → HRel g' loc (.dat (.slice s) (.L xs)) (ρv x) → bnd ρ lo 0 = some a → bnd ρ hi xs.length = some b → 0 ≤ a → a ≤ b → b ≤ xs.length →
            ∃ v, (Instr.sliceAt t (ρv x) (lo.map ρv) (hi.map ρv) none).run P w = .ok v w ∧ HRel g' loc (.dat (.slice s1) (.L ((xs.drop a.toNat).take (b - a).toNat))) v := by
          intro xs a b g' hb hxd ha hbb p0 p1 p2
          have := Sh.beq_eq hb; subst this
          obtain ⟨us, h1, h2⟩ := HRel.dat_iff.1 hxd
          have h1' := h1
          simp only [Rel, D.list] at h1
          obtain ⟨a0, cap, rfl, _⟩ := h1
          obtain ⟨r1, r2⟩ := rel_slice (d := .L xs) h1' p0 p1 p2
          simp only [D.list] at r1 r2
          have hsb := run_sliceBounds (P := P) hρ ha hbb p0 p1 p2 r1 w
          have hv : ρv x = .slice a0 xs.length cap := by rw [h2]; rfl
          refine ⟨_, ?_, HRel.dat_iff.2 ⟨_, r2, rfl⟩⟩
          rw [hv]
          simp only [Instr.sliceAt, Instr.slice, Sem.run_bind, run_underlying hu, Result.andThen_ok, Option.map_none, hsb, run_size hle.plain, Sem.run_pure]
          rfl
        split at h
        · rename_i s0 xs ho
          split at h
          · rename_i a b hb ha hbb
            simp only [Bool.and_eq_true] at hb
            simp only [Option.some.injEq] at h; subst h
            simp only [holds] at hpre
            obtain ⟨p0, p1, p2⟩ := hpre
            have e1 := Sh.beq_eq hb.1
            have e2 := Sh.beq_eq hb.2
            obtain ⟨v, k1, k2⟩ := run xs a b g hb.1 (froz_hrel H (by rw [e1, ← e2]; exact ho) hx) ha hbb p0 p1 p2
            exact ⟨v, w, k1, OpPost.pure H k2⟩
          · cases h
        · rename_i s0 xs ho
          split at h
          · rename_i a b hb ha hbb
            simp only [Bool.and_eq_true] at hb
            simp only [Option.some.injEq] at h; subst h
            simp only [holds] at hpre
            obtain ⟨p0, p1, p2⟩ := hpre
            have e1 := Sh.beq_eq hb.1
            have e2 := Sh.beq_eq hb.2
            obtain ⟨H1, m1, _⟩ := H.freeze ho
            have hx' : HRel (frzG g loc w o) loc (.own o s) (ρv x) := hx.mono m1 (Loc.le_refl _)
            obtain ⟨v, k1, k2⟩ := run xs a b _ hb.1 (froz_hrel H1 (by rw [lk_same]; rw [e1, ← e2]) hx') ha hbb p0 p1 p2
            exact ⟨v, w, k1, frzG g loc w o, loc, m1, Loc.le_refl _, fun _ _ => rfl, H1, k2⟩
          · cases h
        · cases h
      · cases h
    · rename_i m
      split at h
      · rename_i hh
        split at h
        · rename_i k1 a k2 b e0 hrh hrm harg
          simp only [Option.some.injEq] at h; subst h
          simp only [holds] at hpre
          obtain ⟨p0, p1⟩ := hpre
          have hh1 := hρ hh
          have hm1 := hρ m
          rw [hrh] at hh1
          rw [hrm] at hm1
          have eh := hh1.int.1
          have em := hm1.int.1
          rw [p0] at eh
          rw [p1] at em
          obtain ⟨a0, len, cap, hv⟩ : ∃ a0 len cap, ρv x = .slice a0 len cap := by
            have := argD_hrel (Takes.whole H) H (ownP_true _) harg hx
            obtain ⟨us, u1, u2⟩ := HRel.dat_iff.1 this
            simp only [Rel] at u1
            obtain ⟨a0, cap, rfl, _⟩ := u1
            exact ⟨a0, _, cap, u2⟩
          have hb1 := run_sliceBound (P := P) em (y := cap) (by omega) (by omega) .slice3Acap w
          have hb2 := run_sliceBound (P := P) eh (y := 0) (by omega) (by omega) .slice3B w
          have e00 : (0 : Int).toNat = 0 := rfl
          rw [e00] at hb1 hb2
          refine ⟨.slice a0 0 0, w, ?_, g, loc.upd nx .nil, Ghost.le_refl g, Loc.le_upd hn, fun o ho => Loc.upd_other (by simp only at ho; omega), ?_, ?_⟩
          · rw [hv]
            simp only [Instr.sliceAt, Instr.slice, Sem.run_bind, run_underlying hu, Result.andThen_ok, Option.map_none, Option.map_some, Instr.sliceBounds]
            simp [hb1, hb2, run_size hle.plain]
          · exact H.new hn (ExtAll.refl w) .nil (.grow s1 []) (by intro b hb; simp [Place.blk] at hb) (.inl ⟨Loc.upd_same, rfl⟩)
          · show ∃ us, HC g _ (.own nx s1) us ∧ _ = mkV _ us
            exact ⟨[.slice a0 0 0], by simp only [HC]; exact .inl ⟨Loc.upd_same, a0, rfl⟩, rfl⟩
        · cases h
      · cases h
  · cases h

theorem HRel.mp {o : Nat} {ks vs : Sh} {v : Value} (h : HRel g loc (.mp o ks vs) v) : ∃ b, loc o = some (.obj b) ∧ v = .map (some b) := by
  obtain ⟨us, h1, h2⟩ := h
  simp only [HC] at h1
  obtain ⟨b, h1, rfl⟩ := h1
  exact ⟨b, h1, h2⟩
theorem HRel.mit {o : Nat} {v : Value} (h : HRel g loc (.mit o) v) : ∃ b, loc o = some (.obj b) ∧ v = .pointer (some ⟨b, 0, none⟩) := by
  obtain ⟨us, h1, h2⟩ := h
  simp only [HC] at h1
  obtain ⟨b, h1, rfl⟩ := h1
  exact ⟨b, h1, h2⟩

theorem s_makeMap (hC : CtxOK P c) {ρ : Operand → HV} {ρv : Operand → Value} (hρ : ∀ x, HRel g loc (ρ x) (ρv x)) (H : HeapRel w0 hp g loc w) (hn : loc nx = none) {t : Nat} {r : Option Operand} {ty : Nat} {ef : Ef}
    (h : vop0 c nx ρ hp ty (.makeMap t r) = some ef) : ∃ v w', (Instr.makeMap t (r.map ρv)).run P w = .ok v w' ∧ OpPost w0 hp nx g loc ef v w' := by
  have fin : ∀ ks vs, ef = ⟨.mp nx ks vs, [(nx, .map ks vs [])], nx + 1, none⟩ → OpPost w0 hp nx g loc ef (.map (some w.heap.size)) (w.alloc (.map #[] 0)) := by
    rintro ks vs rfl
    refine ⟨g, loc.upd nx (.obj w.heap.size), Ghost.le_refl g, Loc.le_upd hn, fun o ho => Loc.upd_other (by simp only at ho; omega), ?_, ?_⟩
    · refine H.new hn (ExtAll.alloc _ _) _ _ (by intro b hb; simp only [Place.blk, Option.some.injEq] at hb; omega) ⟨w.heap.size, #[], Loc.upd_same, heap_alloc_new _ _, by simp [EntR]⟩
    · show ∃ us, HC g _ (.mp nx ks vs) us ∧ _ = mkV _ us
      exact ⟨[.map (some w.heap.size)], by simp only [HC]; exact ⟨_, Loc.upd_same, rfl⟩, rfl⟩
  simp only [vop0] at h
  split at h
  · rename_i ks vs hmt
    simp only [Option.some.injEq] at h
    refine ⟨.map (some w.heap.size), w.alloc (.map #[] 0), ?_, fin ks vs h.symm⟩
    simp [Instr.makeMap, run_newObj]
  · rename_i y ks vs hmt
    split at h
    · rename_i k d hr
      simp only [Option.some.injEq] at h
      have hy := hρ y
      rw [hr] at hy
      obtain ⟨kt, et, hu, _⟩ := hC.maps _ _ hmt
      refine ⟨.map (some w.heap.size), w.alloc (.map #[] 0), ?_, fin ks vs h.symm⟩
      simp [Instr.makeMap, run_underlying hu, hy.int.1, asInt, asIntOf, run_newObj]
    · cases h
  · cases h

theorem s_mapUpdate (hC : CtxOK P c) {ρ : Operand → HV} {ρv : Operand → Value} (hρ : ∀ x, HRel g loc (ρ x) (ρv x)) (H : HeapRel w0 hp g loc w) {t : Nat} {m k v : Operand} {ty : Nat} {ef : Ef}
    (h : vop0 c nx ρ hp ty (.mapUpdate t m k v) = some ef) : ∃ w', (Instr.mapUpdate t (ρv m) (ρv k) (ρv v)).run P w = .ok () w' ∧ OpPost w0 hp nx g loc ef undef w' := by
  simp only [vop0] at h
  have hm := hρ m
  have hk := hρ k
  have hv := hρ v
  split at h
  · rename_i q vs o q1 vs1 q2 kd s vd hmt hrm hrk hrv
    rw [hrm] at hm; rw [hrk] at hk; rw [hrv] at hv
    split at h
    · rename_i q3 vs3 es hb ho
      simp only [Bool.and_eq_true, decide_eq_true_eq] at hb
      obtain ⟨⟨⟨rfl, rfl⟩, hb1⟩, hb2⟩ := hb
      have := Sh.beq_eq hb1; subst this
      have := Sh.beq_eq hb2; subst this
      split at h
      · rename_i hb3
        simp only [Bool.and_eq_true, decide_eq_true_eq] at hb3
        obtain ⟨rfl, hb3⟩ := hb3
        have := Sh.beq_eq hb3; subst this
        simp only [Option.some.injEq] at h; subst h
        obtain ⟨kt, et, hu, hlk, hle, hd⟩ := hC.maps _ _ hmt
        simp only [Lay] at hlk
        obtain ⟨b, arr, k1, k2, k3⟩ := H.obj o _ ho
        obtain ⟨b', e1, e2⟩ := hm.mp
        rw [k1] at e1
        simp only [Option.some.injEq, Place.obj.injEq] at e1
        subst e1
        obtain ⟨ek, hr⟩ := hk.int
        obtain ⟨us, u1, u2⟩ := HRel.dat_iff.1 hv
        obtain ⟨arr', r1, r2⟩ := run_mapUpdate_int (P := P) hu hlk.2 k2 k3 (k := kd) hr u1
        rw [e2, ek, u2]
        refine ⟨_, r1, g, loc, Ghost.le_refl g, Loc.le_refl loc, fun _ _ => rfl, ?_, trivial⟩
        have hs := MapKept.heap_set (w := w) (o' := .map arr' (mPut kd vd es).length) k2
        exact HeapRel.set H ho rfl k1 rfl (by simp) (fun k hk => hs.2 k hk) ⟨rfl, rfl⟩ ⟨b, arr', k1, hs.1, r2⟩
      · cases h
    · cases h
  · cases h

theorem s_lookup (hC : CtxOK P c) {ρ : Operand → HV} {ρv : Operand → Value} (hρ : ∀ x, HRel g loc (ρ x) (ρv x)) (H : HeapRel w0 hp g loc w) {t : Nat} {m k : Operand} {ok : Bool} {ty : Nat} {ef : Ef}
    (h : vop0 c nx ρ hp ty (.lookup t m k ok) = some ef) : ∃ v, (Instr.lookup t (ρv m) (ρv k) ok).run P w = .ok v w ∧ OpPost w0 hp nx g loc ef v w := by
  simp only [vop0] at h
  have hm := hρ m
  have hk := hρ k
  split at h
  · rename_i q vs o q1 vs1 q2 kd hmt hrm hrk
    rw [hrm] at hm; rw [hrk] at hk
    split at h
    · rename_i q3 vs3 es hb ho
      simp only [Bool.and_eq_true, decide_eq_true_eq] at hb
      obtain ⟨⟨rfl, rfl⟩, hb1⟩ := hb
      have := Sh.beq_eq hb1; subst this
      split at h
      · rename_i hb3
        simp only [Bool.and_eq_true, decide_eq_true_eq] at hb3
        obtain ⟨rfl, hb3⟩ := hb3
        have := Sh.beq_eq hb3; subst this
        obtain ⟨kt, et, hu, hlk, hle, hd⟩ := hC.maps _ _ hmt
        simp only [Lay] at hlk
        obtain ⟨i, hi1, hi2, hi3, _⟩ := hle.ty
        obtain ⟨b, arr, k1, k2, k3⟩ := H.obj o _ ho
        obtain ⟨b', e1, e2⟩ := hm.mp
        rw [k1] at e1
        simp only [Option.some.injEq, Place.obj.injEq] at e1
        subst e1
        obtain ⟨ek, hr⟩ := hk.int
        obtain ⟨us, r1, r2⟩ := run_lookup_int (P := P) (w := w) (n := kd.int) hu hlk.2 k2 k3 (run_zero (P := P) ⟨i, hi1, hi3⟩) ⟨_, Rel.zero g _ hd, rfl⟩ ok
        rw [e2, ek]
        refine ⟨_, r2, ?_⟩
        split at h
        · simp only [Option.some.injEq] at h; subst h
          refine OpPost.pure H ?_
          show ∃ l, HVs g loc _ l ∧ _ = Value.tuple l.toArray
          refine ⟨[mkV _ us, .bool _], ?_, rfl⟩
          simp only [HVs, HC]
          exact ⟨⟨us, r1, rfl⟩, ⟨[.bool (mHas kd.int es)], by simp only [Rel, D.bool], rfl⟩, trivial⟩
        · simp only [Option.some.injEq] at h; subst h
          exact OpPost.pure H (HRel.dat_iff.2 ⟨us, r1, rfl⟩)
      · cases h
    · cases h
  · cases h

theorem s_range (hC : CtxOK P c) {ρ : Operand → HV} {ρv : Operand → Value} (hρ : ∀ x, HRel g loc (ρ x) (ρv x)) (H : HeapRel w0 hp g loc w) (hn : loc nx = none) {t : Nat} {m : Operand} {ty : Nat} {ef : Ef}
    (h : vop0 c nx ρ hp ty (.range t m) = some ef) : ∃ v w', (Instr.range t (ρv m)).run P w = .ok v w' ∧ OpPost w0 hp nx g loc ef v w' := by
  simp only [vop0] at h
  have hm := hρ m
  split at h
  · rename_i ks0 vs0 o ks1 vs1 hmt hrm
    rw [hrm] at hm
    split at h
    · rename_i ks vs es ho
      simp only [Option.some.injEq] at h; subst h
      obtain ⟨kt, et, hu, _⟩ := hC.maps _ _ hmt
      obtain ⟨b, arr, k1, k2, k3⟩ := H.obj o _ ho
      obtain ⟨b', e1, e2⟩ := hm.mp
      rw [k1] at e1
      simp only [Option.some.injEq, Place.obj.injEq] at e1
      subst e1
      have hne : o ≠ nx := fun e => by rw [e, hn] at k1; cases k1
      refine ⟨.pointer (some ⟨w.heap.size, 0, none⟩), w.alloc (.mapIter (some b) es.length #[] es.length), ?_, g, loc.upd nx (.obj w.heap.size), Ghost.le_refl g, Loc.le_upd hn, fun o ho => Loc.upd_other (by simp only at ho; omega), ?_, ?_⟩
      · rw [e2]
        simp [Instr.range, run_underlying hu, MapKept.run_getObj_map k2, run_newObj]
      · refine H.new hn (ExtAll.alloc _ _) _ _ (by intro b hb; simp only [Place.blk, Option.some.injEq] at hb; omega) ⟨w.heap.size, b, Loc.upd_same, by rw [Loc.upd_other hne]; exact k1, heap_alloc_new _ _, fun h => absurd rfl h⟩
      · show ∃ us, HC g _ (.mit nx) us ∧ _ = mkV _ us
        exact ⟨[.pointer (some ⟨w.heap.size, 0, none⟩)], by simp only [HC]; exact ⟨_, Loc.upd_same, rfl⟩, rfl⟩
    · cases h
  · cases h

theorem find_born {ks vs : Sh} : ∀ {i : Nat} {es : List (D × D)} {arr : List MapEntry}, EntR g ks vs i es arr → ∀ j, j < es.length → ∃ e, arr[j]? = some e ∧ arr.find? (fun x => x.born == i + j) = some e
  | _, [], [], _, j, hj => by simp at hj
  | i, (k, v) :: es, e :: arr, h, 0, _ => by
    simp only [EntR] at h
    exact ⟨e, rfl, by simp [List.find?_cons, h.1]⟩
  | i, (k, v) :: es, e :: arr, h, j + 1, hj => by
    simp only [EntR] at h
    obtain ⟨e', h1, h2⟩ := find_born h.2.2.2 j (by simpa using hj)
    refine ⟨e', by simpa using h1, ?_⟩
    have hne : (e.born == i + (j + 1)) = false := by rw [h.1]; simp
    rw [List.find?_cons, hne]
    simp only
    rw [show i + (j + 1) = i + 1 + j by omega]; exact h2
  | _, [], _ :: _, h, _, _ => by simp [EntR] at h
  | _, _ :: _, [], h, _, _ => by simp [EntR] at h

theorem s_entry {ρ : Operand → HV} {ρv : Operand → Value} (hρ : ∀ x, HRel g loc (ρ x) (ρv x)) (H : HeapRel w0 hp g loc w) {x : Operand} {ty : Nat} {ef : Ef}
    (h : vop0 c nx ρ hp ty (.entry x) = some ef) (hpre : holds ef.pre) : ∃ v, (Instr.entry (ρv x)).run P w = .ok v w ∧ OpPost w0 hp nx g loc ef v w := by
  simp only [vop0] at h
  have hx := hρ x
  split at h
  · rename_i o hrx
    rw [hrx] at hx
    split at h
    · rename_i om since last seen ho
      split at h
      · rename_i ks vs es i hom hlast
        simp only [Option.some.injEq] at h; subst h
        simp only [holds] at hpre
        obtain ⟨rfl, hi⟩ := hpre
        obtain ⟨b, bm, k1, k2, k3, k4⟩ := H.obj o _ ho
        obtain ⟨b', e1, e2⟩ := hx.mit
        rw [k1] at e1
        simp only [Option.some.injEq, Place.obj.injEq] at e1
        subst e1
        obtain ⟨bm', arr, m1, m2, m3⟩ := H.obj om _ hom
        rw [k2] at m1
        simp only [Option.some.injEq, Place.obj.injEq] at m1
        subst m1
        obtain ⟨e, f1, f2⟩ := find_born m3 i hi
        rw [Nat.zero_add] at f2
        have hp0 : es[i]? = some (es.getD i (.Z, .Z)) := by rw [List.getD_eq_getElem?_getD, List.getElem?_eq_getElem hi]; rfl
        obtain ⟨e', g1, g2, g3, g4⟩ := m3.get i _ hp0
        rw [f1] at g1
        simp only [Option.some.injEq] at g1; subst g1
        have hback : seen.toArray.back? = some i := by simpa [List.back?_toArray] using hlast
        have hfind : arr.find? (fun x => x.born == i) = some e := by rw [← Array.find?_toList]; exact f2
        refine ⟨.tuple #[e.key, e.val], ?_, OpPost.pure H ?_⟩
        · rw [e2]
          have hg : (getObj b).run P w = .ok (.mapIter (some bm) since seen.toArray es.length) w := by simp [getObj, Sem.run, k3]
          simp only [Instr.entry, Sem.run_bind, hg, Result.andThen_ok, hback, MapKept.run_getObj_map m2, ne_eq, not_true, if_false, hfind, Sem.run_pure]
          simp [hfind]
        · show ∃ l, HVs g loc _ l ∧ _ = Value.tuple l.toArray
          refine ⟨[e.key, e.val], ?_, rfl⟩
          simp only [HVs, HC]
          exact ⟨g3, g4, trivial⟩
      · cases h
    · cases h
  · cases h
end
end Go.Vm
