/- Paths into data and values; how a program's types lie. -/
import Derived.Test.YtjcfnooplhoheaaVmB
noncomputable section
namespace Go.Vm
open Go

def D.gets : D → List PS → D
  | d, [] => d
  | d, p :: ps => D.gets (d.getStep p) ps

def D.puts : Sh → D → List PS → D → D
  | _, _, [], v => v
  | s, d, p :: ps, v => match s.step p with
    | some (s', _) => d.putStep s p (D.puts s' (d.getStep p) ps v)
    | none => d

theorem chunk_chunk (vs : List Value) (o n o' n' : Nat) (h : o' + n' ≤ n) : chunk (chunk vs o n) o' n' = chunk vs (o + o') n' := by
  simp only [chunk, List.drop_take, List.take_take, List.drop_drop]
  congr 1; omega

theorem splice_chunk (vs us : List Value) (o n o' : Nat) (h : o' + us.length ≤ n) (h2 : o + n ≤ vs.length) :
    splice vs o (splice (chunk vs o n) o' us) = splice vs (o + o') us := by
  have hl : (chunk vs o n).length = n := chunk_length vs o n h2
  have hsl : (splice (chunk vs o n) o' us).length = n := by rw [splice_length _ _ _ (by omega), hl]
  simp only [splice] at hsl ⊢
  rw [hsl]
  apply List.ext_getElem?
  intro i
  simp only [chunk, List.getElem?_append, List.getElem?_take, List.getElem?_drop, List.length_append, List.length_take, List.length_drop]
  have e1 : min o vs.length = o := by omega
  have e2 : min n (vs.length - o) = n := by omega
  have e3 : min (o + o') vs.length = o + o' := by omega
  have e4 : min o' n = o' := by omega
  rw [e1, e2, e3, e4]
  by_cases c1 : i < o
  · simp [c1, show i < o + o' by omega, show i < o + (o' + us.length + (n - (o' + us.length))) by omega, show i < o + o' + us.length by omega]
  · by_cases c2 : i < o + o'
    · have : i - o < o' := by omega
      simp [c1, c2, this, show i - o < o' + us.length by omega, show i < o + o' + us.length by omega, show i < o + (o' + us.length + (n - (o' + us.length))) by omega, show i - o < n by omega, show o + (i - o) = i by omega]
    · by_cases c3 : i < o + o' + us.length
      · have : ¬ i - o < o' := by omega
        simp [c1, c2, c3, this, show i - o < o' + us.length by omega, show i < o + (o' + us.length + (n - (o' + us.length))) by omega]
        congr 1; omega
      · by_cases c4 : i < o + n
        · simp [c1, c3, show ¬ i - o < o' + us.length by omega, show i < o + (o' + us.length + (n - (o' + us.length))) by omega]
          rw [if_pos (by omega)]
          congr 1; omega
        · simp [c3, show ¬ i < o + (o' + us.length + (n - (o' + us.length))) by omega]
          congr 1; omega

theorem Rel.gets {g : Ghost} : ∀ {p : List PS} {s s' : Sh} {d : D} {vs : List Value} {off : Nat}, Rel g s d vs → s.navs p = some (s', off) → s.inPath p →
    Rel g s' (d.gets p) (chunk vs off s'.size) ∧ off + s'.size ≤ s.size
  | [], s, s', d, vs, off, h, hp, _ => by
    simp only [Sh.navs, Option.some.injEq, Prod.mk.injEq] at hp
    obtain ⟨rfl, rfl⟩ := hp
    have hl := h.length
    simp only [D.gets, chunk, List.drop_zero]
    rw [← hl, List.take_length]
    exact ⟨h, by omega⟩
  | p :: ps, s, s', d, vs, off, h, hp, hi => by
    simp only [Sh.navs] at hp
    split at hp
    · rename_i s1 o1 h1
      split at hp
      · rename_i s2 o2 h2
        simp only [Option.some.injEq, Prod.mk.injEq] at hp
        obtain ⟨rfl, rfl⟩ := hp
        simp only [Sh.inPath] at hi
        obtain ⟨a1, a2⟩ := Rel.get h h1 hi.1
        obtain ⟨b1, b2⟩ := Rel.gets a1 h2 (hi.2 _ _ h1)
        refine ⟨?_, by omega⟩
        rw [chunk_chunk _ _ _ _ _ b2] at b1
        exact b1
      · cases hp
    · cases hp

theorem Rel.puts {g : Ghost} : ∀ {p : List PS} {s s' : Sh} {d v : D} {vs us : List Value} {off : Nat}, Rel g s d vs → s.navs p = some (s', off) → s.inPath p → Rel g s' v us →
    Rel g s (D.puts s d p v) (splice vs off us)
  | [], s, s', d, v, vs, us, off, h, hp, _, hv => by
    simp only [Sh.navs, Option.some.injEq, Prod.mk.injEq] at hp
    obtain ⟨rfl, rfl⟩ := hp
    have h1 := h.length
    have h2 := hv.length
    have : splice vs 0 us = us := by
      simp only [splice, List.take_zero, List.nil_append, Nat.zero_add]
      rw [List.drop_of_length_le (by omega), List.append_nil]
    rw [this]; exact hv
  | p :: ps, s, s', d, v, vs, us, off, h, hp, hi, hv => by
    simp only [Sh.navs] at hp
    split at hp
    · rename_i s1 o1 h1
      split at hp
      · rename_i s2 o2 h2
        simp only [Option.some.injEq, Prod.mk.injEq] at hp
        obtain ⟨rfl, rfl⟩ := hp
        simp only [Sh.inPath] at hi
        obtain ⟨a1, a2⟩ := Rel.get h h1 hi.1
        have b := Rel.gets a1 h2 (hi.2 _ _ h1)
        have c := Rel.puts a1 h2 (hi.2 _ _ h1) hv
        have e := Rel.putStep h h1 hi.1 c
        rw [splice_chunk _ _ _ _ _ (by rw [hv.length]; exact b.2) (by rw [h.length]; exact a2)] at e
        simp only [D.puts, h1]
        exact e
      · cases hp
    · cases hp

/-! ### Values -/

def HV.getP : HV → List PS → Sh → HV
  | .dat _ d, p, s => .dat s (d.gets p)
  | h, [], _ => h
  | .st _ fs, .fld i :: ps, s => match fs[i]? with
    | some f => HV.getP f ps s
    | none => .und
  | _, _, _ => .und

def datFields : List Sh → Nat → D → List HV
  | [], _, _ => []
  | s :: ss, i, d => .dat s (d.nth i) :: datFields ss (i + 1) d

def HV.putP : HV → List PS → HV → Option HV
  | _, [], v => some v
  | h, p :: ps, v => match h with
    | .dat s d => match v with
      | .dat _ e => some (.dat s (D.puts s d (p :: ps) e))
      | v => match s, p with
        | .struct ss, .fld i => match ss[i]? with
          | some s1 => match HV.putP (.dat s1 (d.nth i)) ps v with
            | some f => some (.st ss ((datFields ss 0 d).set i f))
            | none => none
          | none => none
        | _, _ => none
    | .st ss fs => match p with
      | .fld i => match fs[i]? with
        | some f => match HV.putP f ps v with
          | some f' => some (.st ss (fs.set i f'))
          | none => none
        | none => none
      | _ => none
    | _ => none

section
variable {g : Ghost} {loc : Loc}

theorem HC.length : ∀ {s : Sh} {h : HV} {vs : List Value}, fits s h = true → HC g loc h vs → (vs.length = s.size) 
  | s, .dat s' d, vs, hf, h => by
    simp only [fits] at hf
    simp only [HC] at h
    rw [h.length, Sh.beq_eq hf]
  | .struct ss, .st ss' fs, vs, hf, h => by
    simp only [fits, Bool.and_eq_true] at hf
    simp only [HC] at h
    rw [Sh.beqs_eq hf.1] at h
    have : ∀ {ss : List Sh} {fs : List HV} {vs : List Value}, HCs g loc ss fs vs → vs.length = Sh.sizes ss := by
      intro ss
      induction ss with
      | nil => intro fs vs h; cases fs <;> simp_all [HCs, Sh.sizes]
      | cons s ss ih =>
        intro fs vs h
        cases fs with
        | nil => simp [HCs] at h
        | cons f fs =>
          simp only [HCs] at h
          have := ih h.2.2
          simp only [List.length_drop] at this
          simp only [Sh.sizes]; omega
    simpa [Sh.size] using this h
  | s, .ptr o r p t, vs, hf, h => by
    simp [fits] at hf; simp only [HC] at h
    obtain ⟨b, cap, len, off, _, _, _, rfl⟩ := h
    simp [hf.1]
  | s, .own o t, vs, hf, h => by
    simp [fits] at hf; simp only [HC] at h
    rcases h with ⟨_, _, rfl⟩ | ⟨b, cap, len, _, rfl⟩ <;> simp [hf.1]
  | s, .gptr t d, vs, hf, h => by
    simp [fits] at hf; simp only [HC] at h
    obtain ⟨b, off, cs, T, fr, _, _, _, rfl⟩ := h
    simp [hf.1]
  | s, .fn f caps, vs, hf, h => by
    simp [fits] at hf; simp only [HC] at h
    obtain ⟨cs, _, rfl⟩ := h
    simp [hf.1]
  | s, .cst v, vs, hf, h => by
    simp [fits] at hf; simp only [HC] at h
    obtain ⟨rfl, _⟩ := h
    simp [hf.1]
  | s, .yld o, vs, hf, h => by
    simp [fits] at hf; simp only [HC] at h
    obtain ⟨b, r, _, rfl⟩ := h
    simp [hf.1]
  | s, .mp o _ _, vs, hf, h => by
    simp [fits] at hf; simp only [HC] at h
    obtain ⟨b, _, rfl⟩ := h
    simp [hf.1]
  | s, .mit o, vs, hf, h => by
    simp [fits] at hf; simp only [HC] at h
    obtain ⟨b, _, rfl⟩ := h
    simp [hf.1]
  | s, .tup l, vs, hf, h => by simp [HC] at h
  | s, .und, vs, hf, h => by simp [HC] at h
  | .int _, .st _ _, vs, hf, h => by simp [fits] at hf
  | .bool, .st _ _, vs, hf, h => by simp [fits] at hf
  | .str, .st _ _, vs, hf, h => by simp [fits] at hf
  | .arr _ _, .st _ _, vs, hf, h => by simp [fits] at hf
  | .slice _, .st _ _, vs, hf, h => by simp [fits] at hf
  | .ref, .st _ _, vs, hf, h => by simp [fits] at hf

theorem fits_agg {s : Sh} {h : HV} (hf : fits s h = true) : h.agg = s.agg := by
  cases h with
  | dat s' d => simp only [fits] at hf; rw [← Sh.beq_eq hf]; rfl
  | st ss fs => cases s <;> simp_all [fits, HV.agg, Sh.agg]
  | tup l => cases s <;> simp [fits] at hf
  | und => cases s <;> simp [fits] at hf
  | _ => cases s <;> simp_all [fits, HV.agg, Sh.agg]

theorem HCs.get : ∀ {ss : List Sh} {fs : List HV} {vs : List Value} (i : Nat) {s : Sh} {f : HV}, HCs g loc ss fs vs → ss[i]? = some s → fs[i]? = some f →
    HC g loc f (chunk vs (Sh.sizes (ss.take i)) s.size) ∧ Sh.sizes (ss.take i) + s.size ≤ vs.length
  | [], fs, _, i, _, _, _, hs, _ => by simp at hs
  | _ :: _, [], _, i, _, _, _, _, hf => by simp at hf
  | s0 :: ss, f0 :: fs, vs, 0, s, f, h, hs, hf => by
    simp only [HCs] at h
    simp at hs hf
    subst hs; subst hf
    simp only [List.take_zero, Sh.sizes, chunk, List.drop_zero]
    exact ⟨h.2.1, by omega⟩
  | s0 :: ss, f0 :: fs, vs, i + 1, s, f, h, hs, hf => by
    simp only [HCs] at h
    obtain ⟨h1, h2⟩ := HCs.get i h.2.2 (by simpa using hs) (by simpa using hf)
    simp only [List.length_drop] at h2
    simp only [List.take_succ_cons, Sh.sizes]
    refine ⟨?_, by omega⟩
    simpa [chunk, List.drop_drop] using h1

theorem HCs.put {s : Sh} {f : HV} {us : List Value} (hl : us.length = s.size) (hv : HC g loc f us) : ∀ {ss : List Sh} {fs : List HV} {vs : List Value} (i : Nat), HCs g loc ss fs vs → ss[i]? = some s → i < fs.length →
    HCs g loc ss (fs.set i f) (splice vs (Sh.sizes (ss.take i)) us)
  | [], fs, _, i, _, hs, _ => by simp at hs
  | _ :: _, [], _, i, _, _, hf => by simp at hf
  | s0 :: ss, f0 :: fs, vs, 0, h, hs, hf => by
    simp only [HCs, List.set_cons_zero] at h ⊢
    simp at hs
    subst hs
    simp only [List.take_zero, Sh.sizes]
    have es : splice vs 0 us = us ++ vs.drop us.length := by simp [splice]
    refine ⟨?_, ?_, ?_⟩
    · rw [splice_length _ _ _ (by omega)]; exact h.1
    · rw [es, List.take_left' hl]; exact hv
    · rw [es, List.drop_left' hl, hl]; exact h.2.2
  | s0 :: ss, f0 :: fs, vs, i + 1, h, hs, hf => by
    simp only [HCs, List.set_cons_succ] at h ⊢
    have hs' : ss[i]? = some s := by simpa using hs
    have hf' : i < fs.length := by simpa using hf
    obtain ⟨_, h2⟩ := HCs.get i h.2.2 hs' (List.getElem?_eq_getElem hf')
    simp only [List.length_drop] at h2
    simp only [List.take_succ_cons, Sh.sizes]
    have hlen : s0.size + Sh.sizes (ss.take i) + us.length ≤ vs.length := by omega
    refine ⟨?_, ?_, ?_⟩
    · rw [splice_length _ _ _ hlen]; exact h.1
    · have := chunk_splice_other vs us (s0.size + Sh.sizes (ss.take i)) 0 s0.size hlen (.inl (by omega))
      simp only [chunk, List.drop_zero] at this
      rw [this]; exact h.2.1
    · have e1 : (splice vs (s0.size + Sh.sizes (ss.take i)) us).drop s0.size = splice (vs.drop s0.size) (Sh.sizes (ss.take i)) us := by
        simp only [splice, List.append_assoc]
        rw [List.drop_append_of_le_length (by simp; omega), List.drop_take, List.drop_drop]
        have a1 : s0.size + Sh.sizes (ss.take i) - s0.size = Sh.sizes (ss.take i) := by omega
        have a2 : s0.size + (Sh.sizes (ss.take i) + us.length) = s0.size + Sh.sizes (ss.take i) + us.length := by omega
        rw [a1, a2]
      rw [e1]
      exact HCs.put hl hv i h.2.2 hs' hf'

theorem fitss_length : ∀ {ss : List Sh} {fs : List HV}, fitss ss fs = true → fs.length = ss.length
  | [], [], _ => rfl
  | s :: ss, f :: fs, h => by simp only [fitss, Bool.and_eq_true] at h; simp [fitss_length h.2]
  | [], _ :: _, h => by simp [fitss] at h
  | _ :: _, [], h => by simp [fitss] at h

theorem fitss_get : ∀ {ss : List Sh} {fs : List HV} {i : Nat} {s : Sh} {f : HV}, fitss ss fs = true → ss[i]? = some s → fs[i]? = some f → fits s f = true
  | [], _, i, _, _, _, hs, _ => by simp at hs
  | s :: ss, [], i, _, _, h, _, _ => by simp [fitss] at h
  | s0 :: ss, f0 :: fs, 0, s, f, h, hs, hf => by
    simp only [fitss, Bool.and_eq_true] at h; simp at hs hf; subst hs; subst hf; exact h.1
  | s0 :: ss, f0 :: fs, i + 1, s, f, h, hs, hf => by
    simp only [fitss, Bool.and_eq_true] at h
    exact fitss_get h.2 (by simpa using hs) (by simpa using hf)

theorem fitss_set : ∀ {ss : List Sh} {fs : List HV} {i : Nat} {s : Sh} {f : HV}, fitss ss fs = true → ss[i]? = some s → fits s f = true → fitss ss (fs.set i f) = true
  | [], _, i, _, _, _, hs, _ => by simp at hs
  | s :: ss, [], i, _, _, h, _, _ => by simp [fitss] at h
  | s0 :: ss, f0 :: fs, 0, s, f, h, hs, hf => by
    simp only [fitss, Bool.and_eq_true, List.set_cons_zero] at h ⊢; simp at hs; subst hs; exact ⟨hf, h.2⟩
  | s0 :: ss, f0 :: fs, i + 1, s, f, h, hs, hf => by
    simp only [fitss, Bool.and_eq_true, List.set_cons_succ] at h ⊢
    exact ⟨h.1, fitss_set h.2 (by simpa using hs) hf⟩

mutual
theorem Sh.beq_refl : ∀ (s : Sh), Sh.beq s s = true
  | .int k => by simp [Sh.beq]
  | .bool => by simp [Sh.beq]
  | .str => by simp [Sh.beq]
  | .struct ss => by simp [Sh.beq, Sh.beqs_refl ss]
  | .arr n s => by simp [Sh.beq, Sh.beq_refl s]
  | .slice s => by simp [Sh.beq, Sh.beq_refl s]
  | .ref => by simp [Sh.beq]
theorem Sh.beqs_refl : ∀ (ss : List Sh), Sh.beqs ss ss = true
  | [] => by simp [Sh.beqs]
  | s :: ss => by simp [Sh.beqs, Sh.beq_refl s, Sh.beqs_refl ss]
end

theorem fitss_dat : ∀ (ss : List Sh) (i : Nat) (d : D), fitss ss (datFields ss i d) = true
  | [], _, _ => by simp [datFields, fitss]
  | s :: ss, i, d => by simp [datFields, fitss, fits, Sh.beq_refl, fitss_dat ss]

theorem HCs_dat : ∀ {ss : List Sh} {i : Nat} {d : D} {vs : List Value}, Rels g ss i d vs → HCs g loc ss (datFields ss i d) vs
  | [], _, _, _, h => by simp only [Rels] at h; simp only [datFields, HCs, h]
  | s :: ss, i, d, vs, h => by
    simp only [Rels] at h
    simp only [datFields, HCs, HC]
    exact ⟨h.1, h.2.1, HCs_dat h.2.2⟩

/-- A part of a value. -/
theorem HC.getP : ∀ {p : List PS} {r s : Sh} {h : HV} {vs : List Value} {off : Nat}, HC g loc h vs → fits r h = true → r.navs p = some (s, off) → r.inPath p → h.getP p s ≠ .und →
    HC g loc (h.getP p s) (chunk vs off s.size) ∧ fits s (h.getP p s) = true ∧ off + s.size ≤ r.size
  | p, r, s, .dat s' d, vs, off, h, hf, hp, hi, _ => by
    simp only [fits] at hf
    have := Sh.beq_eq hf
    subst this
    simp only [HC] at h
    obtain ⟨a, b⟩ := Rel.gets h hp hi
    simp only [HV.getP, HC, fits, Sh.beq_refl]
    exact ⟨a, trivial, b⟩
  | [], r, s, h, vs, off, hh, hf, hp, hi, hne => by
    simp only [Sh.navs, Option.some.injEq, Prod.mk.injEq] at hp
    obtain ⟨rfl, rfl⟩ := hp
    have hl := HC.length hf hh
    have e : chunk vs 0 r.size = vs := by simp only [chunk, List.drop_zero, ← hl, List.take_length]
    rw [e]
    cases h <;> simp_all [HV.getP, HC]
    rename_i s' d
    simp only [fits] at hf
    have := Sh.beq_eq hf
    subst this
    simp [D.gets, fits, Sh.beq_refl, hh]
  | .fld i :: ps, r, s, .st ss fs, vs, off, h, hf, hp, hi, hne => by
    cases r <;> simp only [fits, Bool.false_eq_true] at hf
    rename_i rs
    simp only [Bool.and_eq_true] at hf
    have := Sh.beqs_eq hf.1
    subst this
    simp only [HC] at h
    simp only [Sh.navs] at hp
    split at hp
    · rename_i s1 o1 h1
      simp only [Sh.step] at h1
      split at h1
      · rename_i s2 hs2
        simp only [Option.some.injEq, Prod.mk.injEq] at h1
        obtain ⟨rfl, rfl⟩ := h1
        split at hp
        · rename_i s3 o3 h3
          simp only [Option.some.injEq, Prod.mk.injEq] at hp
          obtain ⟨rfl, rfl⟩ := hp
          simp only [HV.getP] at hne ⊢
          cases hfi : fs[i]? with
          | none => simp [hfi] at hne
          | some f =>
            simp only [hfi] at hne ⊢
            obtain ⟨a1, a2⟩ := HCs.get i h hs2 hfi
            have hl : vs.length = Sh.sizes ss := by
              have := HC.length (g := g) (loc := loc) (s := .struct ss) (h := .st ss fs) (vs := vs) (by simp [fits, Sh.beqs_refl, hf.2]) (by simpa only [HC] using h)
              simpa [Sh.size] using this
            simp only [Sh.inPath, Sh.step, hs2] at hi
            obtain ⟨b1, b2, b3⟩ := HC.getP a1 (fitss_get hf.2 hs2 hfi) h3 (hi.2 _ _ rfl) hne
            rw [chunk_chunk _ _ _ _ _ b3] at b1
            refine ⟨b1, b2, ?_⟩
            simp only [Sh.size]; omega
        · cases hp
      · cases h1
    · cases hp
  | .idx i :: ps, r, s, .st ss fs, vs, off, h, hf, hp, hi, hne => by simp [HV.getP] at hne
  | p :: ps, r, s, .ptr .., vs, off, h, hf, hp, hi, hne => by simp [HV.getP] at hne
  | p :: ps, r, s, .own .., vs, off, h, hf, hp, hi, hne => by simp [HV.getP] at hne
  | p :: ps, r, s, .gptr .., vs, off, h, hf, hp, hi, hne => by simp [HV.getP] at hne
  | p :: ps, r, s, .fn .., vs, off, h, hf, hp, hi, hne => by simp [HV.getP] at hne
  | p :: ps, r, s, .tup .., vs, off, h, hf, hp, hi, hne => by simp [HV.getP] at hne
  | p :: ps, r, s, .cst .., vs, off, h, hf, hp, hi, hne => by simp [HV.getP] at hne
  | p :: ps, r, s, .yld .., vs, off, h, hf, hp, hi, hne => by simp [HV.getP] at hne
  | p :: ps, r, s, .mp .., vs, off, h, hf, hp, hi, hne => by simp [HV.getP] at hne
  | p :: ps, r, s, .mit .., vs, off, h, hf, hp, hi, hne => by simp [HV.getP] at hne
  | p :: ps, r, s, .und, vs, off, h, hf, hp, hi, hne => by simp [HV.getP] at hne
end
end Go.Vm
