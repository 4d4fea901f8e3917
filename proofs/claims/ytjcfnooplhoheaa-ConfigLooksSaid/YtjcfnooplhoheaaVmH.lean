/- Values that are built; slices. -/
import Derived.Test.YtjcfnooplhoheaaVmG
noncomputable section
namespace Go.Vm
open Go

theorem splice_cons (vs : List Value) (off : Nat) (u : Value) (us : List Value) (h : off + (us.length + 1) ≤ vs.length) :
    splice vs off (u :: us) = splice (vs.set off u) (off + 1) us := by
  have := list_seg_step vs off u us h
  simp only [splice, List.length_cons]
  rw [this]

theorem foldl_set (off : Nat) : ∀ (us : List Value) (k : Nat) (cells : Array Value), off + k + us.length ≤ cells.size →
    ((us.zipIdx k).foldl (fun cs (x : Value × Nat) => cs.setIfInBounds (off + x.2) x.1) cells).toList = splice cells.toList (off + k) us
  | [], k, cells, _ => by simp [splice]
  | u :: us, k, cells, h => by
    simp only [List.length_cons] at h
    rw [List.zipIdx_cons, List.foldl_cons, foldl_set off us (k + 1) _ (by simp; omega), splice_cons _ _ _ _ (by simp; omega)]
    simp only [Array.toList_setIfInBounds]
    rfl

theorem foldl_set_array (off : Nat) (v : Array Value) (cells : Array Value) (h : off + v.size ≤ cells.size) :
    (v.zipIdx.foldl (fun cs (c, j) => cs.setIfInBounds (off + j) c) cells).toList = splice cells.toList off v.toList := by
  rw [← Array.foldl_toList, Array.toList_zipIdx]
  exact foldl_set off v.toList 0 cells (by simpa using h)

theorem fill_cons (place : Nat → Option (Nat × Nat)) (cells : Array Value) (i : Nat) (v : Value) (rest : List (Nat × Value)) {off size : Nat} (hp : place i = some (off, size))
    (h1 : v.cells.size = size) (h2 : off + size ≤ cells.size) : ∃ cells' : Array Value, cells'.toList = splice cells.toList off v.cells.toList ∧ Instr.fill place cells ((i, v) :: rest) = Instr.fill place cells' rest := by
  refine ⟨_, foldl_set_array off v.cells cells (by omega), ?_⟩
  rw [Instr.fill]
  simp only [hp]
  rw [if_neg]
  simp only [Bool.or_eq_true, decide_eq_true_eq, ne_eq, gt_iff_lt, not_or]
  omega

/-- All of them data: their data. -/
def allDat : List HV → Option (List D)
  | [] => some []
  | .dat _ d :: hs => match allDat hs with
    | some ds => some (d :: ds)
    | none => none
  | _ :: _ => none

/-- A struct of these fields. -/
def mkSt (ss : List Sh) (fs : List HV) : HV := match allDat fs with
  | some ds => .dat (.struct ss) (.L ds)
  | none => .st ss fs

section
variable {P : Program} {g : Ghost} {loc : Loc}

theorem allDat_rels : ∀ {ss : List Sh} {fs : List HV} {ds : List D} {vs : List Value} (i : Nat) (d : D), allDat fs = some ds → HCs g loc ss fs vs → fitss ss fs = true →
    (∀ j, j < ds.length → d.nth (i + j) = ds.getD j .Z) → Rels g ss i d vs
  | [], [], _, _, _, _, _, h, _, _ => by simp only [HCs] at h; simp only [Rels, h]
  | [], _ :: _, _, _, _, _, _, _, h, _ => by simp [fitss] at h
  | _ :: _, [], _, _, _, _, _, _, h, _ => by simp [fitss] at h
  | s :: ss, f :: fs, ds, vs, i, d, h, hc, hf, hd => by
    cases f with
    | dat t e =>
      simp only [allDat] at h
      split at h
      · rename_i es hes
        simp only [Option.some.injEq] at h
        subst h
        simp only [fitss, Bool.and_eq_true, fits] at hf
        simp only [HCs, HC] at hc
        have := Sh.beq_eq hf.1
        subst this
        simp only [Rels]
        have e0 : d.nth i = e := by simpa using hd 0 (by simp)
        refine ⟨hc.1, by rw [e0]; exact hc.2.1, allDat_rels (i + 1) d hes hc.2.2 hf.2 fun j hj => ?_⟩
        have := hd (j + 1) (by simp; omega)
        simp only [List.getD_cons_succ] at this
        rw [← this]; congr 1; omega
      · cases h
    | _ => simp [allDat] at h

theorem mkSt_rel {ss : List Sh} {fs : List HV} {vs : List Value} (h : HCs g loc ss fs vs) (hf : fitss ss fs = true) : HC g loc (mkSt ss fs) vs ∧ fits (.struct ss) (mkSt ss fs) = true := by
  unfold mkSt
  split
  · rename_i ds hds
    simp only [HC, Rel, fits, Sh.beq_refl, and_true]
    exact allDat_rels 0 _ hds h hf fun j _ => by simp [D.nth]
  · simp only [HC, fits, Sh.beqs_refl, hf, Bool.true_and, and_true]
    exact h

/-- The zero values of the fields. -/
def H0s (ss : List Sh) : List HV := ss.map zf

/-- Fields, some of them put in. -/
def putFields (ρ : Operand → HV) (ss : List Sh) : List HV → List (Nat × Operand) → Option (List HV)
  | fs, [] => some fs
  | fs, (i, x) :: rest => match ss[i]? with
    | some s => match fits s (ρ x) with
      | true => putFields ρ ss (fs.set i (ρ x)) rest
      | false => none
    | none => none

theorem HRel.of_fits {s : Sh} {h : HV} {v : Value} (hf : fits s h = true) (hr : HRel g loc h v) : ∃ us, HC g loc h us ∧ v = mkV h.agg us := by
  cases h with
  | tup l => cases s <;> simp [fits] at hf
  | und => cases s <;> simp [fits] at hf
  | _ => exact hr

theorem HRel.of_hc {s : Sh} {h : HV} {us : List Value} (hf : fits s h = true) (hr : HC g loc h us) : HRel g loc h (mkV s.agg us) := by
  rw [← fits_agg hf]
  cases h with
  | tup l => simp only [HC] at hr
  | und => simp only [HC] at hr
  | _ => exact ⟨us, hr, rfl⟩

theorem lays_size (P : Program) : ∀ {ss : List Sh} {off : Nat} {fs : List Field}, Lays P ss off fs → fs.length = ss.length
  | [], _, [], _ => rfl
  | s :: ss, off, f :: fs, h => by simp only [Lays] at h; simp [lays_size P h.2.2.2.2]
  | [], _, _ :: _, h => by simp [Lays] at h
  | _ :: _, _, [], h => by simp [Lays] at h

theorem lays_get (P : Program) : ∀ {ss : List Sh} {off i : Nat} {fs : List Field} {s : Sh}, Lays P ss off fs → ss[i]? = some s → ∃ f, fs[i]? = some f ∧ f.offset = off + Sh.sizes (ss.take i) ∧ 0 < s.size ∧ Lay P s f.type
  | [], _, i, _, _, _, h => by simp at h
  | _ :: _, _, _, [], _, h, _ => by simp [Lays] at h
  | s0 :: ss, off, 0, f :: fs, s, h, hs => by
    simp only [Lays] at h; simp at hs; subst hs
    exact ⟨f, rfl, by simp [Sh.sizes, h.1], h.2.2.1, h.2.2.2.1⟩
  | s0 :: ss, off, i + 1, f :: fs, s, h, hs => by
    simp only [Lays] at h
    obtain ⟨f', h1, h2, h3⟩ := lays_get P h.2.2.2.2 (i := i) (by simpa using hs)
    exact ⟨f', by simpa using h1, by rw [h2]; simp [Sh.sizes]; omega, h3⟩

theorem fill_fields {ρ : Operand → HV} {ρv : Operand → Value} {ss : List Sh} (place : Nat → Option (Nat × Nat)) (hplace : ∀ i s, ss[i]? = some s → place i = some (Sh.sizes (ss.take i), s.size)) :
    ∀ (parts : List (Nat × Operand)) (fs fs' : List HV) (cells : Array Value), (∀ p ∈ parts, HRel g loc (ρ p.2) (ρv p.2)) → putFields ρ ss fs parts = some fs' →
      HCs g loc ss fs cells.toList → fitss ss fs = true → cells.size = Sh.sizes ss → ∃ cells', Instr.fill place cells (parts.map fun p => (p.1, ρv p.2)) = some cells' ∧ HCs g loc ss fs' cells'.toList ∧ fitss ss fs' = true
  | [], fs, fs', cells, _, h, hc, hf, _ => by
    simp only [putFields, Option.some.injEq] at h; subst h
    exact ⟨cells, rfl, hc, hf⟩
  | (i, x) :: rest, fs, fs', cells, hρ, h, hc, hf, hsz => by
    simp only [putFields] at h
    split at h
    · rename_i s hs
      split at h
      · rename_i hfx
        have hx := HRel.of_fits hfx (hρ (i, x) (by simp))
        have hcx := HRel.cells hx
        have hlx := HC.length hfx hcx
        have hi : i < fs.length := by rw [fitss_length hf]; exact (List.getElem?_eq_some_iff.1 hs).1
        obtain ⟨_, hb⟩ := HCs.get i hc hs (List.getElem?_eq_getElem hi)
        obtain ⟨cells', h1, h2⟩ := fill_cons place cells i (ρv x) (rest.map fun p => (p.1, ρv p.2)) (hplace i s hs) (by simpa using hlx) (by simpa using hb)
        have hc' := HCs.put hlx hcx i hc hs hi
        rw [← h1] at hc'
        have hsz' : cells'.size = Sh.sizes ss := by
          rw [← hsz, ← Array.length_toList, h1, splice_length _ _ _ (by rw [hlx]; exact hb), Array.length_toList]
        obtain ⟨c2, k1, k2, k3⟩ := fill_fields place hplace rest _ fs' cells' (fun p hp => hρ p (by simp [hp])) h hc' (fitss_set hf hs hfx) hsz'
        refine ⟨c2, ?_, k2, k3⟩
        simp only [List.map_cons]
        rw [h2]; exact k1
      · cases h
    · cases h

theorem run_mapM_fields {ss : List Sh} : ∀ {off : Nat} {fs : List Field}, Lays P ss off fs → ∀ w,
    (fs.mapM fun f => do pure (f.offset, ← sizeOf f.type) : Sem (List (Nat × Nat))).run P w = .ok ((List.range ss.length).map fun i => (off + Sh.sizes (ss.take i), (ss.getD i .ref).size)) w := by
  induction ss with
  | nil => intro off fs h w; cases fs <;> simp_all [Lays]
  | cons s ss ih =>
    intro off fs h w
    cases fs with
    | nil => simp [Lays] at h
    | cons f fs =>
      simp only [Lays] at h
      have := ih h.2.2.2.2 w
      rw [List.mapM_cons]
      simp only [Sem.run_bind, run_size h.2.2.2.1.plain, Result.andThen_ok, Sem.run_pure, this]
      congr 1
      rw [List.length_cons, List.range_succ_eq_map, List.map_cons, List.map_map]
      simp only [List.take_zero, Sh.sizes, Nat.add_zero, List.getD_cons_zero, h.1, List.cons.injEq, true_and]
      apply List.map_congr_left
      intro i _
      simp [Sh.sizes]; omega

/-- A struct is built. -/
theorem run_build_struct {ρ : Operand → HV} {ρv : Operand → Value} {ss : List Sh} {t : TypeId} {parts : Array (Nat × Operand)} {fs' : List HV} (hl : Lay P (.struct ss) t) (hd : Sh.datas ss = true)
    (hρ : ∀ p ∈ parts.toList, HRel g loc (ρ p.2) (ρv p.2)) (h : putFields ρ ss (H0s ss) parts.toList = some fs') (w : World) :
    ∃ v, (Instr.build t (parts.map fun (i, x) => (i, ρv x))).run P w = .ok v w ∧ HRel g loc (mkSt ss fs') v := by
  have hty := hl.ty
  simp only [Lay] at hl
  obtain ⟨_, ⟨fs, hu, hls⟩, _⟩ := hl
  obtain ⟨i, hi, hsz, hz, _⟩ := hty
  simp only [Sh.agg, mkV, zcells] at hz
  have hz0 := HCs.zeroSt g loc ss hd
  have hzl : (zcellss ss).length = Sh.sizes ss := by
    have := HC.length (g := g) (loc := loc) (s := .struct ss) (h := .st ss (H0s ss)) (vs := zcellss ss) (by simp [fits, Sh.beqs_refl, H0s, fitss_zeroSt]) (by simp only [HC]; exact hz0)
    simpa [Sh.size] using this
  have hm := run_mapM_fields hls w
  simp only [Nat.zero_add] at hm
  obtain ⟨cells', k1, k2, k3⟩ := fill_fields (ρ := ρ) (ρv := ρv) (fun i => ((List.range ss.length).map fun i => (Sh.sizes (ss.take i), (ss.getD i .ref).size))[i]?)
    (by
      intro i s hs
      have hi : i < ss.length := (List.getElem?_eq_some_iff.1 hs).1
      rw [List.getElem?_map, List.getElem?_range hi]
      simp [List.getD_eq_getElem?_getD, hs]) parts.toList (H0s ss) fs' (zcellss ss).toArray hρ h (by simpa [H0s] using hz0) (fitss_zeroSt ss) (by simpa using hzl)
  refine ⟨.agg cells', ?_, ?_⟩
  · unfold Instr.build
    simp only [Sem.run_bind, run_zero ⟨i, hi, hz⟩, Result.andThen_ok, run_underlying hu, Value.cells]
    rw [Array.mapM_eq_mapM_toList]
    simp only [Sem.run_map, hm, Result.andThen_ok]
    simp only [Array.toList_map]
    have e : (fun (i : Nat) => (((List.range ss.length).map fun i => (Sh.sizes (ss.take i), (ss.getD i .ref).size)).toArray)[i]?) = (fun (i : Nat) => ((List.range ss.length).map fun i => (Sh.sizes (ss.take i), (ss.getD i .ref).size))[i]?) := by
      funext i; simp
    rw [e, k1]
    rfl
  · have := mkSt_rel k2 k3
    exact HRel.of_hc this.2 this.1 |> fun h => by simpa [Sh.agg, mkV] using h
end
end Go.Vm
