/- Equality of structs and arrays; parts of values; values that are built. -/
import Derived.Test.YtjcfnooplhoheaaVmF
noncomputable section
namespace Go.Vm
open Go

mutual
def eqD : Sh → D → D → Bool
  | .int _, a, b => a.int == b.int
  | .bool, a, b => a.bool == b.bool
  | .str, a, b => a.str == b.str
  | .struct ss, a, b => eqDs ss 0 a b
  | .arr n s, a, b => (List.range n).all fun j => eqD s (a.nth j) (b.nth j)
  | _, _, _ => true
def eqDs : List Sh → Nat → D → D → Bool
  | [], _, _, _ => true
  | s :: ss, i, a, b => eqD s (a.nth i) (b.nth i) && eqDs ss (i + 1) a b
end

mutual
def Sh.depth : Sh → Nat
  | .struct ss => Sh.depths ss + 1
  | .arr _ s => s.depth + 1
  | _ => 1
def Sh.depths : List Sh → Nat
  | [] => 0
  | s :: ss => max s.depth (Sh.depths ss)
end

section
variable {P : Program} {g : Ghost} {loc : Loc}

theorem run_part {t : TypeId} {n : Nat} {agg : Bool} (hp : Plain P t n agg) (h1 : agg = false → n = 1) (cs : Array Value) (off : Nat) (ho : off + n ≤ cs.size) (w : World) :
    (part t cs off).run P w = .ok (mkV agg (chunk cs.toList off n)) w := by
  cases agg with
  | true =>
    simp only [part, Sem.run_bind, run_isAgg hp, Result.andThen_ok, if_true, run_size hp, Sem.run_pure, mkV]
    congr 2
    rw [← Array.toList_inj]
    simp [chunk, List.take_drop]
  | false =>
    have hn := h1 rfl
    subst hn
    have hlt : off < cs.size := by omega
    have hc : cs[off]? = some cs[off] := by simp [hlt]
    simp only [part, Sem.run_bind, run_isAgg hp, Result.andThen_ok, Bool.false_eq_true, if_false, hc, Sem.run_pure, mkV]
    have : (chunk cs.toList off 1).head? = some cs[off] := by
      rw [chunk, List.head?_take, if_neg (by omega), List.head?_drop]; simp [hlt]
    cases hd : chunk cs.toList off 1 with
    | nil => rw [hd] at this; cases this
    | cons x xs => rw [hd] at this; simp at this; simp [this]

theorem Sh.size_one {s : Sh} (h : s.agg = false) : s.size = 1 := by cases s <;> simp_all [Sh.agg, Sh.size]

mutual
theorem equalIn_run : ∀ {s : Sh} {t : TypeId} {a b : D} {xs ys : List Value} (d : Nat), Lay P s t → s.flat = true → s.depth ≤ d → Rel g s a xs → Rel g s b ys → ∀ w,
    (Op.equalIn d t (mkV s.agg xs) (mkV s.agg ys)).run P w = .ok (eqD s a b) w
  | .int k, t, a, b, xs, ys, d, hl, _, hd, hx, hy, w => by
    simp only [Lay] at hl
    simp only [Rel] at hx hy
    obtain ⟨rfl, _⟩ := hx
    obtain ⟨rfl, _⟩ := hy
    simp only [Sh.depth] at hd
    obtain ⟨d, rfl⟩ : ∃ e, d = e + 1 := ⟨d - 1, by omega⟩
    exact run_equalIn_int w d t k k _ _ hl.2
  | .bool, t, a, b, xs, ys, d, hl, _, hd, hx, hy, w => by
    simp only [Lay] at hl
    simp only [Rel] at hx hy
    subst hx; subst hy
    simp only [Sh.depth] at hd
    obtain ⟨d, rfl⟩ : ∃ e, d = e + 1 := ⟨d - 1, by omega⟩
    exact run_equalIn_bool' w d t _ _ hl.2
  | .str, t, a, b, xs, ys, d, hl, _, hd, hx, hy, w => by
    simp only [Lay] at hl
    simp only [Rel] at hx hy
    subst hx; subst hy
    simp only [Sh.depth] at hd
    obtain ⟨d, rfl⟩ : ∃ e, d = e + 1 := ⟨d - 1, by omega⟩
    have := run_equalIn_string w d t a.str b.str hl.2
    rw [← beq_toListBytes] at this
    exact this
  | .struct ss, t, a, b, xs, ys, d, hl, hf, hd, hx, hy, w => by
    simp only [Lay] at hl
    obtain ⟨_, ⟨fs, hu, hls⟩, _, hst⟩ := hl
    simp only [Sh.depth] at hd
    obtain ⟨d, rfl⟩ : ∃ e, d = e + 1 := ⟨d - 1, by omega⟩
    have hfo : P.fieldsOf t = fs := by simp [Program.fieldsOf, hu]
    simp only [Sh.agg, mkV]
    rw [run_equalIn_struct w d t _ _ (by rw [hfo]; exact hu) hst, hfo]
    simp only [Rel] at hx hy
    simp only [eqD]
    have hxl := Rels.length hx
    have hyl := Rels.length hy
    exact eqFields_run d 0 hls (by simpa [Sh.flat] using hf) (by omega) (by simpa using hx) (by simpa using hy) (by simp [hxl]) (by simp [hyl]) w
  | .arr n s, t, a, b, xs, ys, d, hl, hf, hd, hx, hy, w => by
    simp only [Lay] at hl
    obtain ⟨_, ⟨e, hu, hls⟩, _⟩ := hl
    simp only [Sh.depth] at hd
    obtain ⟨d, rfl⟩ : ∃ e, d = e + 1 := ⟨d - 1, by omega⟩
    simp only [Sh.agg, mkV, eqD]
    simp only [Rel] at hx hy
    have hfs : s.flat = true := by simpa [Sh.flat] using hf
    simp only [Op.equalIn, Sem.run_bind, run_underlying hu, Result.andThen_ok, run_size hls.plain, Std.Legacy.Range.forIn_eq_forIn_range', Std.Legacy.Range.size, Nat.sub_zero, Nat.add_sub_cancel, Nat.div_one]
    have key : ∀ (m k : Nat), k + m = n → ∀ w, ((forIn (m := Sem) (List.range' k m) ((none, ()) : Option Bool × Unit) fun i r => do
        let __do_lift ← part e xs.toArray (i * s.size)
        let __do_lift_1 ← part e ys.toArray (i * s.size)
        let __do_lift ← Op.equalIn d e __do_lift __do_lift_1
        if (!__do_lift) = true then pure (ForInStep.done (some false, ())) else pure (ForInStep.yield (none, ())))).run P w = .ok (if (List.range' k m).all (fun j => eqD s (a.nth j) (b.nth j)) then none else some false, ()) w := by
      intro m
      induction m with
      | zero => intro k _ w; simp
      | succ m ih =>
        intro k hk w
        have hkn : k < n := by omega
        have hb1 : k * s.size + s.size ≤ n * s.size := by
          calc k * s.size + s.size = (k + 1) * s.size := by rw [Nat.add_mul, Nat.one_mul]
            _ ≤ n * s.size := Nat.mul_le_mul_right _ hkn
        have p1 := run_part hls.plain Sh.size_one xs.toArray (k * s.size) (by simp [hx.1]; exact hb1) w
        have p2 := run_part hls.plain Sh.size_one ys.toArray (k * s.size) (by simp [hy.1]; exact hb1) w
        have q := equalIn_run d hls hfs (by omega) (hx.2 k hkn) (hy.2 k hkn) w
        rw [List.range'_succ, List.forIn_cons]
        simp only [Sem.run_bind, p1, p2, Result.andThen_ok, q, List.all_cons]
        by_cases hq : eqD s (a.nth k) (b.nth k) = true
        · simp only [hq, Bool.not_true, Bool.false_eq_true, if_false, Sem.run_pure, Result.andThen_ok, Bool.true_and]
          exact ih (k + 1) (by omega) w
        · simp only [Bool.not_eq_true] at hq
          simp only [hq, Bool.not_false, if_true, Sem.run_pure, Result.andThen_ok, Bool.false_and, Bool.false_eq_true, if_false]
    have := key n 0 (by omega) w
    rw [this, List.range_eq_range']
    simp only [Result.andThen_ok]
    by_cases hq : (List.range' 0 n).all (fun j => eqD s (a.nth j) (b.nth j)) = true
    · rw [hq]; simp
    · simp only [Bool.not_eq_true] at hq
      rw [hq]; simp
  | .slice s, t, a, b, xs, ys, d, hl, hf, hd, hx, hy, w => by simp [Sh.flat] at hf
  | .ref, t, a, b, xs, ys, d, hl, hf, hd, hx, hy, w => by simp [Sh.flat] at hf
theorem eqFields_run : ∀ {ss : List Sh} {fs : List Field} {i : Nat} {a b : D} {xs ys : Array Value} (d off : Nat), Lays P ss off fs → Sh.flats ss = true → Sh.depths ss ≤ d →
    Rels g ss i a (xs.toList.drop off) → Rels g ss i b (ys.toList.drop off) → off + Sh.sizes ss = xs.size → off + Sh.sizes ss = ys.size → ∀ w,
    (Op.eqFields d xs ys fs).run P w = .ok (eqDs ss i a b) w
  | [], [], i, a, b, xs, ys, d, off, _, _, _, _, _, _, _, w => by simp [Op.eqFields, eqDs]
  | [], _ :: _, _, _, _, _, _, _, _, h, _, _, _, _, _, _, _ => by simp [Lays] at h
  | _ :: _, [], _, _, _, _, _, _, _, h, _, _, _, _, _, _, _ => by simp [Lays] at h
  | s :: ss, f :: fs, i, a, b, xs, ys, d, off, hl, hf, hd, hx, hy, h1, h2, w => by
    simp only [Lays] at hl
    obtain ⟨hoff, hname, _, hls, hrest⟩ := hl
    simp only [Sh.flats, Bool.and_eq_true] at hf
    simp only [Sh.depths] at hd
    simp only [Rels] at hx hy
    simp only [Sh.sizes] at h1 h2
    have p1 := run_part hls.plain Sh.size_one xs off (by omega) w
    have p2 := run_part hls.plain Sh.size_one ys off (by omega) w
    have q := equalIn_run d hls hf.1 (by omega) hx.2.1 hy.2.1 w
    simp only [Op.eqFields, hname, ne_eq, not_false_eq_true, if_true, hoff, Sem.run_bind, p1, p2, Result.andThen_ok]
    have e1 : chunk xs.toList off s.size = List.take s.size (List.drop off xs.toList) := rfl
    have e2 : chunk ys.toList off s.size = List.take s.size (List.drop off ys.toList) := rfl
    rw [e1, e2, q]
    simp only [Result.andThen_ok, eqDs]
    by_cases hq : eqD s (a.nth i) (b.nth i) = true
    case neg =>
      simp only [Bool.not_eq_true] at hq
      simp [hq]
    case pos =>
      simp only [hq, Bool.not_true, Bool.false_eq_true, if_false, Bool.true_and]
      refine eqFields_run d (off + s.size) hrest hf.2 (by omega) ?_ ?_ (by omega) (by omega) w
      · rw [← List.drop_drop]; exact hx.2.2
      · rw [← List.drop_drop]; exact hy.2.2
end
end
end Go.Vm
