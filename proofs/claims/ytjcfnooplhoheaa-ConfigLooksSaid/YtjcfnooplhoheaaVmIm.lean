/- Maps with whole numbers as keys: finding, putting. -/
import Derived.Test.YtjcfnooplhoheaaVmI
import Derived.MapKept
noncomputable section
namespace Go.Vm
open Go

def mHas (k : Int) : List (D × D) → Bool
  | [] => false
  | (k', _) :: es => decide (k'.int = k) || mHas k es
def mGet (z : D) (k : Int) : List (D × D) → D
  | [] => z
  | (k', v) :: es => if k'.int = k then v else mGet z k es
def mPut (k v : D) : List (D × D) → List (D × D)
  | [] => [(k, v)]
  | (k', v') :: es => if k'.int = k.int then (k, v) :: es else (k', v') :: mPut k v es

theorem mPut_length (k v : D) : ∀ es : List (D × D), (mPut k v es).length = if mHas k.int es = true then es.length else es.length + 1
  | [] => by simp [mPut, mHas]
  | (k', v') :: es => by
    have ih := mPut_length k v es
    simp only [mPut, mHas]
    by_cases h : k'.int = k.int
    · simp [h]
    · simp only [h, if_false, decide_false, Bool.false_or, List.length_cons, ih]
      split <;> simp
theorem mGet_none {z : D} {k : Int} : ∀ {es : List (D × D)}, mHas k es = false → mGet z k es = z
  | [], _ => rfl
  | (k', v') :: es, h => by
    simp only [mHas, Bool.or_eq_false_iff, decide_eq_false_iff_not] at h
    simp only [mGet, if_neg h.1]; exact mGet_none h.2

section
variable {g : Ghost}

theorem EntR.append {ks vs : Sh} {k v : D} {e : MapEntry} : ∀ {i : Nat} {es : List (D × D)} {arr : List MapEntry}, EntR g ks vs i es arr → e.born = i + es.length → (∃ us, Rel g ks k us ∧ e.key = mkV ks.agg us) → (∃ us, Rel g vs v us ∧ e.val = mkV vs.agg us) →
    EntR g ks vs i (es ++ [(k, v)]) (arr ++ [e])
  | i, [], [], _, hb, hk, hv => by
    simp only [List.nil_append, EntR]
    exact ⟨by simpa using hb, hk, hv, trivial⟩
  | i, (k', v') :: es, e' :: arr, h, hb, hk, hv => by
    simp only [EntR, List.cons_append] at h ⊢
    exact ⟨h.1, h.2.1, h.2.2.1, EntR.append h.2.2.2 (by rw [hb]; simp; omega) hk hv⟩
  | _, [], _ :: _, h, _, _, _ => by simp [EntR] at h
  | _, _ :: _, [], h, _, _, _ => by simp [EntR] at h
theorem EntR.length {ks vs : Sh} : ∀ {i : Nat} {es : List (D × D)} {arr : List MapEntry}, EntR g ks vs i es arr → arr.length = es.length
  | _, [], [], _ => rfl
  | _, _ :: _, _ :: _, h => by simp only [EntR] at h; simp [h.2.2.2.length]
  | _, [], _ :: _, h => by simp [EntR] at h
  | _, _ :: _, [], h => by simp [EntR] at h
theorem EntR.get {ks vs : Sh} : ∀ {i : Nat} {es : List (D × D)} {arr : List MapEntry}, EntR g ks vs i es arr → ∀ j p, es[j]? = some p → ∃ e, arr[j]? = some e ∧ e.born = i + j ∧ (∃ us, Rel g ks p.1 us ∧ e.key = mkV ks.agg us) ∧ ∃ us, Rel g vs p.2 us ∧ e.val = mkV vs.agg us
  | _, [], [], _, j, p, hp => by simp at hp
  | i, (k, v) :: es, e :: arr, h, 0, p, hp => by
    simp only [EntR] at h
    simp only [List.getElem?_cons_zero, Option.some.injEq] at hp
    subst hp
    exact ⟨e, rfl, h.1, h.2.1, h.2.2.1⟩
  | i, (k, v) :: es, e :: arr, h, j + 1, p, hp => by
    simp only [EntR] at h
    simp only [List.getElem?_cons_succ] at hp
    obtain ⟨e', h1, h2, h3, h4⟩ := h.2.2.2.get j p hp
    exact ⟨e', by simpa using h1, by omega, h3, h4⟩
  | _, [], _ :: _, h, _, _, _ => by simp [EntR] at h
  | _, _ :: _, [], h, _, _, _ => by simp [EntR] at h

theorem mPut_new {k v : D} : ∀ {es : List (D × D)}, mHas k.int es = false → mPut k v es = es ++ [(k, v)]
  | [], _ => rfl
  | (k', v') :: es, h => by
    simp only [mHas, Bool.or_eq_false_iff, decide_eq_false_iff_not] at h
    simp only [mPut, if_neg h.1, mPut_new h.2, List.cons_append]

/-- Where a key is found. -/
theorem findNow_int {q : IntKind} {vs : Sh} {n : Int} {z : D} : ∀ {i0 i : Nat} {es : List (D × D)} {arr : List MapEntry}, EntR g (.int q) vs i0 es arr →
    (mHas n es = false ∧ Instr.findNow (.int q) (.int q n) arr i = some none) ∨
    ∃ j e, mHas n es = true ∧ Instr.findNow (.int q) (.int q n) arr i = some (some (i + j, e.val)) ∧ arr[j]? = some e ∧ e.key = .int q n ∧ (∃ us, Rel g vs (mGet z n es) us ∧ e.val = mkV vs.agg us) ∧
      ∀ k v us, k.int = n → q.min ≤ n → n ≤ q.max → Rel g vs v us → EntR g (.int q) vs i0 (mPut k v es) (arr.modify j fun e => { e with key := .int q n, val := mkV vs.agg us })
  | _, _, [], [], _ => .inl ⟨rfl, rfl⟩
  | i0, i, (k', v') :: es, e :: arr, h => by
    simp only [EntR] at h
    obtain ⟨h1, ⟨us, h2, h3⟩, h4, h5⟩ := h
    simp only [Rel] at h2
    obtain ⟨rfl, hr⟩ := h2
    have hk : e.key = .int q k'.int := h3
    have hs : Instr.sameNow (.int q) (.int q n) e.key = some (n == k'.int) := by rw [hk]; simp [Instr.sameNow]
    by_cases he : k'.int = n
    · right
      refine ⟨0, e, by simp [mHas, he], ?_, rfl, by rw [hk, he], ?_, ?_⟩
      · simp only [Instr.findNow, hs]
        simp [he]
      · simpa only [mGet, if_pos he] using h4
      · intro k v us hkn hmin hmax hv
        simp only [mPut, hkn, if_pos he]
        show EntR g (.int q) vs i0 ((k, v) :: es) ({ e with key := .int q n, val := mkV vs.agg us } :: arr)
        simp only [EntR]
        exact ⟨h1, ⟨[.int q n], by simp only [Rel]; exact ⟨by rw [hkn], by rw [hkn]; exact ⟨hmin, hmax⟩⟩, rfl⟩, ⟨us, hv, rfl⟩, h5⟩
    · have hb : (n == k'.int) = false := by simp; omega
      rcases findNow_int (n := n) (z := z) (i := i + 1) h5 with ⟨a1, a2⟩ | ⟨j, e', a1, a2, a3, a4, a5, a6⟩
      · left
        refine ⟨by simp [mHas, he, a1], ?_⟩
        simp only [Instr.findNow, hs, hb]
        exact a2
      · right
        refine ⟨j + 1, e', by simp [mHas, a1], ?_, by simpa using a3, a4, ?_, ?_⟩
        · simp only [Instr.findNow, hs, hb]
          rw [a2]; congr 3; omega
        · simpa only [mGet, if_neg he] using a5
        · intro k v us hkn hmin hmax hv
          have := a6 k v us hkn hmin hmax hv
          simp only [mPut, hkn, if_neg he]
          show EntR g (.int q) vs i0 ((k', v') :: mPut k v es) (e :: arr.modify j _)
          simp only [EntR]
          exact ⟨h1, ⟨[.int q k'.int], by simp only [Rel]; exact ⟨trivial, hr⟩, h3⟩, h4, this⟩
  | _, _, [], _ :: _, h => by simp [EntR] at h
  | _, _, _ :: _, [], h => by simp [EntR] at h
end

section
variable {P : Program} {g : Ghost} {w : World}

theorem run_lookup_int {t kt et : TypeId} {q : IntKind} {vs : Sh} {es : List (D × D)} {arr : Array MapEntry} {cl b : Nat} {n : Int} {z : Value} (hu : P.underlying t = some (.map kt et)) (hk : P.underlying kt = some (.int q))
    (hb : w.heap[b]? = some (.map arr cl)) (hE : EntR g (.int q) vs 0 es arr.toList) (hz : ∀ w, (zeroValue et).run P w = .ok z w) (hzr : ∃ us, Rel g vs (D0 vs) us ∧ z = mkV vs.agg us) (c : Bool) :
    ∃ us, Rel g vs (mGet (D0 vs) n es) us ∧ (Instr.lookup t (.map (some b)) (.int q n) c).run P w = .ok (if c then .tuple #[mkV vs.agg us, .bool (mHas n es)] else mkV vs.agg us) w := by
  have hck : ∀ e, (Instr.checkKey e 10000 kt (.int q n)).run P w = .ok () w := fun e => MapKept.run_checkKey (d := .int q) hk (by simp [MapKept.IsKey]) e 9999
  rcases findNow_int (n := n) (z := D0 vs) (i := 0) hE with ⟨a1, a2⟩ | ⟨j, e', a1, a2, a3, a4, ⟨us, a5, a6⟩, _⟩
  · obtain ⟨us, h1, h2⟩ := hzr
    refine ⟨us, by rw [mGet_none a1]; exact h1, ?_⟩
    have hf := MapKept.run_findKey (P := P) (w := w) (kt := kt) (d := .int q) hk a2
    simp only [Instr.lookup, Sem.run_bind, run_underlying hu, Result.andThen_ok, Sem.run_pure, MapKept.run_getObj_map hb, hck, hf, hz, a1, h2]
  · refine ⟨us, a5, ?_⟩
    have hf := MapKept.run_findKey (P := P) (w := w) (kt := kt) (d := .int q) hk a2
    simp only [Instr.lookup, Sem.run_bind, run_underlying hu, Result.andThen_ok, Sem.run_pure, MapKept.run_getObj_map hb, hck, hf, a1, a6]

theorem run_mapUpdate_int {t kt et : TypeId} {q : IntKind} {vs : Sh} {es : List (D × D)} {arr : Array MapEntry} {b : Nat} {k v : D} {us : List Value} (hu : P.underlying t = some (.map kt et)) (hk : P.underlying kt = some (.int q))
    (hb : w.heap[b]? = some (.map arr es.length)) (hE : EntR g (.int q) vs 0 es arr.toList) (hr : q.min ≤ k.int ∧ k.int ≤ q.max) (hv : Rel g vs v us) :
    ∃ arr' : Array MapEntry, (Instr.mapUpdate t (.map (some b)) (.int q k.int) (mkV vs.agg us)).run P w = .ok () { w with heap := w.heap.setIfInBounds b (.map arr' (mPut k v es).length) } ∧ EntR g (.int q) vs 0 (mPut k v es) arr'.toList := by
  have hck : ∀ e, (Instr.checkKey e 10000 kt (.int q k.int)).run P w = .ok () w := fun e => MapKept.run_checkKey (d := .int q) hk (by simp [MapKept.IsKey]) e 9999
  rcases findNow_int (n := k.int) (z := D0 vs) (i := 0) hE with ⟨a1, a2⟩ | ⟨j, e', a1, a2, a3, a4, _, a6⟩
  · have hf := MapKept.run_findKey (P := P) (w := w) (kt := kt) (d := .int q) hk a2
    refine ⟨arr.push { key := .int q k.int, val := mkV vs.agg us, born := es.length }, ?_, ?_⟩
    · simp only [Instr.mapUpdate, Sem.run_bind, run_underlying hu, Result.andThen_ok, MapKept.run_getObj_map hb, hck, hf, MapKept.run_setObj_map _ hb, mPut_length, a1, Bool.false_eq_true, if_false]
    · rw [mPut_new a1]
      have : (arr.push { key := .int q k.int, val := mkV vs.agg us, born := es.length }).toList = arr.toList ++ [{ key := .int q k.int, val := mkV vs.agg us, born := es.length }] := by simp
      rw [this]
      exact EntR.append hE (by simp) ⟨[.int q k.int], by simp only [Rel]; exact ⟨trivial, hr⟩, rfl⟩ ⟨us, hv, rfl⟩
  · have hf := MapKept.run_findKey (P := P) (w := w) (kt := kt) (d := .int q) hk a2
    rw [Nat.zero_add] at hf
    have hst : (Instr.keyThatStays (((arr[j]?).map (·.key)).getD (.int q k.int)) (.int q k.int)).run P w = .ok (.int q k.int) w := by
      have : arr[j]? = some e' := by simpa using a3
      rw [this]
      simp only [Option.map_some, Option.getD_some, a4]
      exact MapKept.run_keyThatStays (d := .int q) (by simp [MapKept.IsKey])
    refine ⟨arr.modify j fun e => { e with key := .int q k.int, val := mkV vs.agg us }, ?_, ?_⟩
    · simp only [Instr.mapUpdate, Sem.run_bind, run_underlying hu, Result.andThen_ok, MapKept.run_getObj_map hb, hck, hf, hst, MapKept.run_setObj_map _ hb, mPut_length, a1, if_true]
    · have := a6 k v us rfl hr.1 hr.2 hv
      simpa using this
end
end Go.Vm
