/- Values that are built; slices. append. Maps with whole numbers as keys: finding, putting. One operation: what the evaluator makes of it. What the evaluator makes of one operation is what the model does: part 1. What the evaluator makes of one operation is what the model does: part 2, operations that touch no object. -/
import Derived.Test.YtpfpgjkbnjnjnaaWVmG
import Derived.MapKept
noncomputable section
namespace Go.Vm
open Go

theorem splice_cons (vs : List Value) (off : Nat) (u : Value) (us : List Value) (h : off + (us.length + 1) ≤ vs.length) :
    splice vs off (u :: us) = splice (vs.set off u) (off + 1) us := by
  have := list_seg_step vs off u us h
  simp only [splice, List.length_cons]
  rw [this]

theorem foldl_set (off : Nat) : ∀ (us : List Value) (k : Nat) (cells : Array Value), off + k + us.length ≤ cells.size →
    ((us.zipIdx k).foldl (fun cs (x : Value × Nat) => cs.setIfInBounds (off + x.2) x.1) cells).toList = splice cells.toList (off + k) us
  | [], k, cells, _ => by simp [splice]
  | u :: us, k, cells, h => by
    simp only [List.length_cons] at h
    rw [List.zipIdx_cons, List.foldl_cons, foldl_set off us (k + 1) _ (by simp; omega), splice_cons _ _ _ _ (by simp; omega)]
    simp only [Array.toList_setIfInBounds]
    rfl

theorem foldl_set_array (off : Nat) (v : Array Value) (cells : Array Value) (h : off + v.size ≤ cells.size) :
    (v.zipIdx.foldl (fun cs (c, j) => cs.setIfInBounds (off + j) c) cells).toList = splice cells.toList off v.toList := by
  rw [← Array.foldl_toList, Array.toList_zipIdx]
  exact foldl_set off v.toList 0 cells (by simpa using h)

theorem fill_cons (place : Nat → Option (Nat × Nat)) (cells : Array Value) (i : Nat) (v : Value) (rest : List (Nat × Value)) {off size : Nat} (hp : place i = some (off, size))
    (h1 : v.cells.size = size) (h2 : off + size ≤ cells.size) : ∃ cells' : Array Value, cells'.toList = splice cells.toList off v.cells.toList ∧ Instr.fill place cells ((i, v) :: rest) = Instr.fill place cells' rest := by
  refine ⟨_, foldl_set_array off v.cells cells (by omega), ?_⟩
  rw [Instr.fill]
  simp only [hp]
  rw [if_neg]
  simp only [Bool.or_eq_true, decide_eq_true_eq, ne_eq, gt_iff_lt, not_or]
  omega

/-- All of them data: their data. -/
def allDat : List HV → Option (List D)
  | [] => some []
  | .dat _ d :: hs => match allDat hs with
    | some ds => some (d :: ds)
    | none => none
  | _ :: _ => none

/-- A struct of these fields. -/
def mkSt (ss : List Sh) (fs : List HV) : HV := match allDat fs with
  | some ds => .dat (.struct ss) (.L ds)
  | none => .st ss fs

section
variable {P : Program} {g : Ghost} {loc : Loc}

theorem allDat_rels : ∀ {ss : List Sh} {fs : List HV} {ds : List D} {vs : List Value} (i : Nat) (d : D), allDat fs = some ds → HCs g loc ss fs vs → fitss ss fs = true →
    (∀ j, j < ds.length → d.nth (i + j) = ds.getD j .Z) → Rels g ss i d vs
  | [], [], _, _, _, _, _, h, _, _ => by simp only [HCs] at h; simp only [Rels, h]
  | [], _ :: _, _, _, _, _, _, _, h, _ => by simp [fitss] at h
  | _ :: _, [], _, _, _, _, _, _, h, _ => by simp [fitss] at h
  | s :: ss, f :: fs, ds, vs, i, d, h, hc, hf, hd => by
    cases f with
    | dat t e =>
      simp only [allDat] at h
      split at h
      · rename_i es hes
        simp only [Option.some.injEq] at h
        subst h
        simp only [fitss, Bool.and_eq_true, fits] at hf
        simp only [HCs, HC] at hc
        have := Sh.beq_eq hf.1
        subst this
        simp only [Rels]
        have e0 : d.nth i = e := by simpa using hd 0 (by simp)
        refine ⟨hc.1, by rw [e0]; exact hc.2.1, allDat_rels (i + 1) d hes hc.2.2 hf.2 fun j hj => ?_⟩
        have := hd (j + 1) (by simp; omega)
        simp only [List.getD_cons_succ] at this
        rw [← this]; congr 1; omega
      · cases h
    | _ => simp [allDat] at h

theorem mkSt_rel {ss : List Sh} {fs : List HV} {vs : List Value} (h : HCs g loc ss fs vs) (hf : fitss ss fs = true) : HC g loc (mkSt ss fs) vs ∧ fits (.struct ss) (mkSt ss fs) = true := by
  unfold mkSt
  split
  · rename_i ds hds
    simp only [HC, Rel, fits, Sh.beq_refl, and_true]
    exact allDat_rels 0 _ hds h hf fun j _ => by simp [D.nth]
  · simp only [HC, fits, Sh.beqs_refl, hf, Bool.true_and, and_true]
    exact h

/-- The zero values of the fields. -/
def H0s (ss : List Sh) : List HV := ss.map zf

/-- Fields, some of them put in. -/
def putFields (ρ : Operand → HV) (ss : List Sh) : List HV → List (Nat × Operand) → Option (List HV)
  | fs, [] => some fs
  | fs, (i, x) :: rest => match ss[i]? with
    | some s => match fits s (ρ x) with
      | true => putFields ρ ss (fs.set i (ρ x)) rest
      | false => none
    | none => none

theorem HRel.of_fits {s : Sh} {h : HV} {v : Value} (hf : fits s h = true) (hr : HRel g loc h v) : ∃ us, HC g loc h us ∧ v = mkV h.agg us := by
  cases h with
  | tup l => cases s <;> simp [fits] at hf
  | und => cases s <;> simp [fits] at hf
  | _ => exact hr

theorem HRel.of_hc {s : Sh} {h : HV} {us : List Value} (hf : fits s h = true) (hr : HC g loc h us) : HRel g loc h (mkV s.agg us) := by
  rw [← fits_agg hf]
  cases h with
  | tup l => simp only [HC] at hr
  | und => simp only [HC] at hr
  | _ => exact ⟨us, hr, rfl⟩

theorem lays_size (P : Program) : ∀ {ss : List Sh} {off : Nat} {fs : List Field}, Lays P ss off fs → fs.length = ss.length
  | [], _, [], _ => rfl
  | s :: ss, off, f :: fs, h => by simp only [Lays] at h; simp [lays_size P h.2.2.2.2]
  | [], _, _ :: _, h => by simp [Lays] at h
  | _ :: _, _, [], h => by simp [Lays] at h

theorem lays_get (P : Program) : ∀ {ss : List Sh} {off i : Nat} {fs : List Field} {s : Sh}, Lays P ss off fs → ss[i]? = some s → ∃ f, fs[i]? = some f ∧ f.offset = off + Sh.sizes (ss.take i) ∧ 0 < s.size ∧ Lay P s f.type
  | [], _, i, _, _, _, h => by simp at h
  | _ :: _, _, _, [], _, h, _ => by simp [Lays] at h
  | s0 :: ss, off, 0, f :: fs, s, h, hs => by
    simp only [Lays] at h; simp at hs; subst hs
    exact ⟨f, rfl, by simp [Sh.sizes, h.1], h.2.2.1, h.2.2.2.1⟩
  | s0 :: ss, off, i + 1, f :: fs, s, h, hs => by
    simp only [Lays] at h
    obtain ⟨f', h1, h2, h3⟩ := lays_get P h.2.2.2.2 (i := i) (by simpa using hs)
    exact ⟨f', by simpa using h1, by rw [h2]; simp [Sh.sizes]; omega, h3⟩

theorem fill_fields {ρ : Operand → HV} {ρv : Operand → Value} {ss : List Sh} (place : Nat → Option (Nat × Nat)) (hplace : ∀ i s, ss[i]? = some s → place i = some (Sh.sizes (ss.take i), s.size)) :
    ∀ (parts : List (Nat × Operand)) (fs fs' : List HV) (cells : Array Value), (∀ p ∈ parts, HRel g loc (ρ p.2) (ρv p.2)) → putFields ρ ss fs parts = some fs' →
      HCs g loc ss fs cells.toList → fitss ss fs = true → cells.size = Sh.sizes ss → ∃ cells', Instr.fill place cells (parts.map fun p => (p.1, ρv p.2)) = some cells' ∧ HCs g loc ss fs' cells'.toList ∧ fitss ss fs' = true
  | [], fs, fs', cells, _, h, hc, hf, _ => by
    simp only [putFields, Option.some.injEq] at h; subst h
    exact ⟨cells, rfl, hc, hf⟩
  | (i, x) :: rest, fs, fs', cells, hρ, h, hc, hf, hsz => by
    simp only [putFields] at h
    split at h
    · rename_i s hs
      split at h
      · rename_i hfx
        have hx := HRel.of_fits hfx (hρ (i, x) (by simp))
        have hcx := HRel.cells hx
        have hlx := HC.length hfx hcx
        have hi : i < fs.length := by rw [fitss_length hf]; exact (List.getElem?_eq_some_iff.1 hs).1
        obtain ⟨_, hb⟩ := HCs.get i hc hs (List.getElem?_eq_getElem hi)
        obtain ⟨cells', h1, h2⟩ := fill_cons place cells i (ρv x) (rest.map fun p => (p.1, ρv p.2)) (hplace i s hs) (by simpa using hlx) (by simpa using hb)
        have hc' := HCs.put hlx hcx i hc hs hi
        rw [← h1] at hc'
        have hsz' : cells'.size = Sh.sizes ss := by
          rw [← hsz, ← Array.length_toList, h1, splice_length _ _ _ (by rw [hlx]; exact hb), Array.length_toList]
        obtain ⟨c2, k1, k2, k3⟩ := fill_fields place hplace rest _ fs' cells' (fun p hp => hρ p (by simp [hp])) h hc' (fitss_set hf hs hfx) hsz'
        refine ⟨c2, ?_, k2, k3⟩
        simp only [List.map_cons]
        rw [h2]; exact k1
      · cases h
    · cases h

theorem run_mapM_fields {ss : List Sh} : ∀ {off : Nat} {fs : List Field}, Lays P ss off fs → ∀ w,
    (fs.mapM fun f => do pure (f.offset, ← sizeOf f.type) : Sem (List (Nat × Nat))).run P w = .ok ((List.range ss.length).map fun i => (off + Sh.sizes (ss.take i), (ss.getD i .ref).size)) w := by
  induction ss with
  | nil => intro off fs h w; cases fs <;> simp_all [Lays]
  | cons s ss ih =>
    intro off fs h w
    cases fs with
    | nil => simp [Lays] at h
    | cons f fs =>
      simp only [Lays] at h
      have := ih h.2.2.2.2 w
      rw [List.mapM_cons]
      simp only [Sem.run_bind, run_size h.2.2.2.1.plain, Result.andThen_ok, Sem.run_pure, this]
      congr 1
      rw [List.length_cons, List.range_succ_eq_map, List.map_cons, List.map_map]
      simp only [List.take_zero, Sh.sizes, Nat.add_zero, List.getD_cons_zero, h.1, List.cons.injEq, true_and]
      apply List.map_congr_left
      intro i _
      simp [Sh.sizes]; omega

/-- A struct is built. -/
theorem run_build_struct {ρ : Operand → HV} {ρv : Operand → Value} {ss : List Sh} {t : TypeId} {parts : Array (Nat × Operand)} {fs' : List HV} (hl : Lay P (.struct ss) t) (hd : Sh.datas ss = true)
    (hρ : ∀ p ∈ parts.toList, HRel g loc (ρ p.2) (ρv p.2)) (h : putFields ρ ss (H0s ss) parts.toList = some fs') (w : World) :
    ∃ v, (Instr.build t (parts.map fun (i, x) => (i, ρv x))).run P w = .ok v w ∧ HRel g loc (mkSt ss fs') v := by
  have hty := hl.ty
  simp only [Lay] at hl
  obtain ⟨_, ⟨fs, hu, hls⟩, _⟩ := hl
  obtain ⟨i, hi, hsz, hz, _⟩ := hty
  simp only [Sh.agg, mkV, zcells] at hz
  have hz0 := HCs.zeroSt g loc ss hd
  have hzl : (zcellss ss).length = Sh.sizes ss := by
    have := HC.length (g := g) (loc := loc) (s := .struct ss) (h := .st ss (H0s ss)) (vs := zcellss ss) (by simp [fits, Sh.beqs_refl, H0s, fitss_zeroSt]) (by simp only [HC]; exact hz0)
    simpa [Sh.size] using this
  have hm := run_mapM_fields hls w
  simp only [Nat.zero_add] at hm
  obtain ⟨cells', k1, k2, k3⟩ := fill_fields (ρ := ρ) (ρv := ρv) (fun i => ((List.range ss.length).map fun i => (Sh.sizes (ss.take i), (ss.getD i .ref).size))[i]?)
    (by
      intro i s hs
      have hi : i < ss.length := (List.getElem?_eq_some_iff.1 hs).1
      rw [List.getElem?_map, List.getElem?_range hi]
      simp [List.getD_eq_getElem?_getD, hs]) parts.toList (H0s ss) fs' (zcellss ss).toArray hρ h (by simpa [H0s] using hz0) (fitss_zeroSt ss) (by simpa using hzl)
  refine ⟨.agg cells', ?_, ?_⟩
  · unfold Instr.build
    simp only [Sem.run_bind, run_zero ⟨i, hi, hz⟩, Result.andThen_ok, run_underlying hu, Value.cells]
    rw [Array.mapM_eq_mapM_toList]
    simp only [Sem.run_map, hm, Result.andThen_ok]
    simp only [Array.toList_map]
    have e : (fun (i : Nat) => (((List.range ss.length).map fun i => (Sh.sizes (ss.take i), (ss.getD i .ref).size)).toArray)[i]?) = (fun (i : Nat) => ((List.range ss.length).map fun i => (Sh.sizes (ss.take i), (ss.getD i .ref).size))[i]?) := by
      funext i; simp
    rw [e, k1]
    rfl
  · have := mkSt_rel k2 k3
    exact HRel.of_hc this.2 this.1 |> fun h => by simpa [Sh.agg, mkV] using h
end
end Go.Vm

noncomputable section
namespace Go.Vm
open Go

section
variable {P : Program} {g : Ghost} {loc : Loc} {w0 : Base} {w w' : World} {hp : Hp} {nx : Nat}

/-- An object gives its block to a new one. -/
theorem HeapRel.renew (H : HeapRel w0 hp g loc w) (hn : loc nx = none) {o : Nat} {vo vo' : VO} {b : Nat} {x x' : Place} (ho : lk hp o = some vo) (hlive : vo.live = true) (hb : loc o = some x) (hxb : x.blk = some b)
    (hxb' : x'.blk = some b) (hsz : w'.heap.size = w.heap.size) (hw : ∀ k, k ≠ b → w'.heap[k]? = w.heap[k]?) (hst : w'.os = w.os ∧ w'.output = w.output) (hO : ORel g (loc.upd nx x') w' nx vo') :
    HeapRel w0 ((nx, vo') :: (o, .dead) :: hp) g (loc.upd nx x') w' := by
  refine { obj := ?_, inj := ?_, ghost := ?_, sep := ?_, low := ?_, ext := ?_, size := by rw [hsz]; exact H.size, old := H.old, still := ⟨hst.1.trans H.still.1, hst.2.trans H.still.2⟩ }
  · intro k vk h
    rw [lk_cons] at h
    split at h
    · rename_i e; subst e
      simp only [Option.some.injEq] at h; subst h
      exact hO
    · rw [lk_cons] at h
      split at h
      · simp only [Option.some.injEq] at h; subst h; trivial
      · rename_i hne
        by_cases hl : vk.live = true
        · refine (H.obj k vk h).mono (Ghost.le_refl _) (Loc.le_upd hn) fun b' y z hb' hyb' hy => ?_
          rw [hw b' fun e => hne (by subst e; exact H.inj o k vo vk b' x y ho h hlive hl hb hb' hxb hyb')]
          exact hy
        · cases vk with
          | dead => trivial
          | froz s xs =>
            rcases H.obj k _ h with ⟨e1, e2⟩ | ⟨b2, cap, T, cs, e1, e2⟩
            · exact .inl ⟨Loc.le_upd hn _ _ e1, e2⟩
            · exact .inr ⟨b2, cap, T, cs, Loc.le_upd hn _ _ e1, e2⟩
          | _ => simp [VO.live] at hl
  · have key : ∀ k vk b1 y, lk ((nx, vo') :: (o, .dead) :: hp) k = some vk → vk.live = true → nx ≠ k → (loc.upd nx x') k = some y → y.blk = some b1 → b1 ≠ b ∧ lk hp k = some vk ∧ loc k = some y := by
      intro k vk b1 y h1 l1 hne e1 f1
      rw [lk_cons, if_neg hne, lk_cons] at h1
      rw [Loc.upd_other (fun e => hne e.symm)] at e1
      split at h1
      · simp only [Option.some.injEq] at h1; subst h1; simp [VO.live] at l1
      · rename_i hok
        exact ⟨fun e => hok (by subst e; exact H.inj o k vo vk b1 x y ho h1 hlive l1 hb e1 hxb f1), h1, e1⟩
    intro o1 o2 vo1 vo2 b1 c1 c2 h1 h2 l1 l2 e1 e2 f1 f2
    by_cases a1 : nx = o1 <;> by_cases a2 : nx = o2
    · rw [← a1, ← a2]
    · subst a1
      rw [Loc.upd_same] at e1; simp only [Option.some.injEq] at e1; subst e1
      rw [hxb'] at f1; simp only [Option.some.injEq] at f1
      exact absurd f1.symm (key o2 vo2 b1 c2 h2 l2 a2 e2 f2).1
    · subst a2
      rw [Loc.upd_same] at e2; simp only [Option.some.injEq] at e2; subst e2
      rw [hxb'] at f2; simp only [Option.some.injEq] at f2
      exact absurd f2.symm (key o1 vo1 b1 c1 h1 l1 a1 e1 f1).1
    · obtain ⟨_, k1, k2⟩ := key o1 vo1 b1 c1 h1 l1 a1 e1 f1
      obtain ⟨_, k3, k4⟩ := key o2 vo2 b1 c2 h2 l2 a2 e2 f2
      exact H.inj o1 o2 vo1 vo2 b1 c1 c2 k1 k3 l1 l2 k2 k4 f1 f2
  · intro k y h
    have hne : k ≠ b := by
      intro e; subst e
      rw [H.sep o vo k x ho hlive hb hxb] at h; cases h
    rw [hw k hne]; exact H.ghost k y h
  · intro k vk b' c h1 h2 h3 h4
    by_cases a : nx = k
    · subst a
      rw [Loc.upd_same] at h3; simp only [Option.some.injEq] at h3; subst h3
      rw [hxb'] at h4; simp only [Option.some.injEq] at h4; subst h4
      exact H.sep o vo b x ho hlive hb hxb
    · rw [lk_cons, if_neg a, lk_cons] at h1
      rw [Loc.upd_other (fun e => a e.symm)] at h3
      split at h1
      · simp only [Option.some.injEq] at h1; subst h1; simp [VO.live] at h2
      · exact H.sep k vk b' c h1 h2 h3 h4
  · intro k vk b' c h1 h2 h3 h4
    by_cases a : nx = k
    · subst a
      rw [Loc.upd_same] at h3; simp only [Option.some.injEq] at h3; subst h3
      rw [hxb'] at h4; simp only [Option.some.injEq] at h4; subst h4
      exact H.low o vo b x ho hlive hb hxb
    · rw [lk_cons, if_neg a, lk_cons] at h1
      rw [Loc.upd_other (fun e => a e.symm)] at h3
      split at h1
      · simp only [Option.some.injEq] at h1; subst h1; simp [VO.live] at h2
      · exact H.low k vk b' c h1 h2 h3 h4
  · intro k hk hwr
    have h1 := H.low o vo b x ho hlive hb hxb
    have hne : k ≠ b := by
      rintro rfl
      rcases h1 with h1 | h1
      · rw [hwr] at h1; cases h1
      · omega
    rw [hw k hne]; exact H.ext k hk hwr

theorem growBy_le (need : Nat) : ∀ (r c : Nat), c ≤ 2 * need + 768 → Builtin.growBy need r c ≤ 2 * need + 768
  | 0, c, h => h
  | r + 1, c, h => by
    unfold Builtin.growBy
    split
    · exact h
    · exact growBy_le need r _ (by omega)

theorem nextslicecap_le (need old : Nat) (h : old < need) : Builtin.nextslicecap need old ≤ 2 * need + 768 := by
  unfold Builtin.nextslicecap
  split
  · omega
  · split
    · omega
    · exact growBy_le _ _ _ (by omega)

theorem zeroCells_size (z : Array Value) (n : Nat) : (Builtin.zeroCells z n).size = n * z.size := by simp [Builtin.zeroCells]

/-- The cells of the first elements of a slice. -/
theorem run_firstCells {size n cap b off : Nat} {cs : Array Value} {T : TypeId} {fr : Nat × Nat} (hb : w.heap[b]? = some (.cells cs T fr)) (ho : off + n * size ≤ cs.size) :
    (Builtin.firstCells size n (.slice (some ⟨b, off, none⟩) n cap)).run P w = .ok (chunk cs.toList off (n * size)).toArray w := by
  have hl : (chunk cs.toList off (n * size)).length = n * size := chunk_length _ _ _ (by simpa using ho)
  have hload := run_loadCells_list (P := P) w ⟨b, off, none⟩ (chunk cs.toList off (n * size)) (fun j v hv => by
    rw [addr_add, cell_at hb]
    simp only [chunk, List.getElem?_take, List.getElem?_drop] at hv
    split at hv
    · simpa using hv
    · cases hv)
  rw [hl] at hload
  simpa [Builtin.firstCells] using hload

theorem run_firstCells_nil {size n : Nat} : (Builtin.firstCells size n (.slice none 0 0)).run P w = .ok #[] w := by simp [Builtin.firstCells]

/-- What append asks of its second operand: the cells of a slice whose elements are these data. -/
def Elems (P : Program) (g : Ghost) (w : World) (s : Sh) (ys : List D) (v : Value) : Prop :=
  ∃ a cap, v = .slice a ys.length cap ∧ ∃ cells : Array Value, (∀ w', w'.heap = w.heap → (Builtin.firstCells s.size ys.length v).run P w' = .ok cells w') ∧ cells.size = ys.length * s.size ∧
    ∀ j, j < ys.length → Rel g s (ys.getD j .Z) (chunk cells.toList (j * s.size) s.size)

theorem Elems.dat {s : Sh} {d : D} {v : Value} (hg : ∀ b x, g b = some x → w.heap[b]? = some x) (h : HRel g loc (.dat (.slice s) d) v) : Elems P g w s d.list v := by
  obtain ⟨us, h1, rfl⟩ := HRel.dat_iff.1 h
  simp only [Rel] at h1
  obtain ⟨a, cap, rfl, h1⟩ := h1
  refine ⟨a, cap, rfl, ?_⟩
  cases a with
  | none =>
    simp only at h1
    obtain ⟨h1, rfl⟩ := h1
    refine ⟨#[], fun w' _ => ?_, by simp [h1], fun j hj => by rw [h1] at hj; simp at hj⟩
    simp only [Sh.agg, mkV, List.headD_cons, h1, List.length_nil]
    exact run_firstCells_nil
  | some a =>
    obtain ⟨h3, h1⟩ := h1
    rcases Nat.eq_zero_or_pos cap with hc | hc
    · subst hc
      have hn : d.list = [] := List.length_eq_zero_iff.1 (Nat.le_zero.1 h3)
      refine ⟨#[], fun w' _ => ?_, by simp [hn], fun j hj => by rw [hn] at hj; simp at hj⟩
      have := run_loadCells_list (P := P) w' a [] (fun j v hv => by simp at hv)
      simpa [Sh.agg, mkV, Builtin.firstCells, hn] using this
    obtain ⟨h2, cs, T, fr, h4, h5, h6⟩ := h1 hc
    obtain ⟨b, off, spot⟩ := a
    simp only at h2 h4 h5 h6
    subst h2
    have hle : off + d.list.length * s.size ≤ cs.size := by
      have := Nat.mul_le_mul_right s.size (show d.list.length ≤ cap by omega)
      omega
    refine ⟨(chunk cs.toList off (d.list.length * s.size)).toArray, fun w' hw' => ?_, ?_, ?_⟩
    · simp only [Sh.agg, mkV, List.headD_cons]
      exact run_firstCells (by rw [hw']; exact hg _ _ h4) hle
    · simp [chunk_length _ _ _ (show off + d.list.length * s.size ≤ cs.toList.length by simpa using hle)]
    · intro j hj
      have hj2 : j * s.size + s.size ≤ d.list.length * s.size := by
        calc j * s.size + s.size = (j + 1) * s.size := by rw [Nat.add_mul, Nat.one_mul]
          _ ≤ _ := Nat.mul_le_mul_right _ hj
      rw [chunk_chunk _ _ _ _ _ hj2]
      exact h6 j hj

theorem Elems.own {s : Sh} {o : Nat} {xs : List D} {v : Value} (hO : ORel g loc w o (.grow s xs)) (h : HRel g loc (.own o s) v) : Elems P g w s xs v := by
  obtain ⟨us, h1, rfl⟩ := h
  simp only [HC] at h1
  rcases hO with ⟨k1, rfl⟩ | ⟨b, cap, T, cs, k1, k2, k3, k4, k5⟩
  · rcases h1 with ⟨_, a, rfl⟩ | ⟨b', cap', len', e1, rfl⟩
    · refine ⟨a, 0, rfl, #[], fun w' _ => ?_, by simp, fun j hj => by simp at hj⟩
      cases a with
      | none => exact run_firstCells_nil
      | some a =>
        have := run_loadCells_list (P := P) w' a [] (fun j v hv => by simp at hv)
        simpa [HV.agg, mkV, Builtin.firstCells] using this
    · rw [k1] at e1; cases e1
  · rcases h1 with ⟨e1, _, rfl⟩ | ⟨b', cap', len', e1, rfl⟩
    · rw [k1] at e1; cases e1
    · rw [k1] at e1
      simp only [Option.some.injEq, Place.at.injEq] at e1
      obtain ⟨rfl, rfl, rfl, _⟩ := e1
      have hle : 0 + xs.length * s.size ≤ cs.size := by
        have := Nat.mul_le_mul_right s.size (show xs.length ≤ cap by omega)
        omega
      refine ⟨some ⟨b, 0, none⟩, cap, rfl, (chunk cs.toList 0 (xs.length * s.size)).toArray, fun w' hw' => ?_, ?_, ?_⟩
      · exact run_firstCells (by rw [hw']; exact k2) hle
      · simp [chunk_length _ _ _ (show 0 + xs.length * s.size ≤ cs.toList.length by simpa using hle)]
      · intro j hj
        have hj2 : j * s.size + s.size ≤ xs.length * s.size := by
          calc j * s.size + s.size = (j + 1) * s.size := by rw [Nat.add_mul, Nat.one_mul]
            _ ≤ _ := Nat.mul_le_mul_right _ hj
        rw [chunk_chunk _ _ _ _ _ hj2, Nat.zero_add]
        exact k5 j hj

theorem Elems.nil {s : Sh} : Elems P g w s [] (.slice none 0 0) := ⟨none, 0, rfl, #[], fun _ _ => run_firstCells_nil, by simp, fun j hj => by simp at hj⟩

theorem rel_append {s : Sh} {xs ys : List D} {us vs rest : List Value} (hx : us.length = xs.length * s.size) (hy : vs.length = ys.length * s.size)
    (h1 : ∀ j, j < xs.length → Rel g s (xs.getD j .Z) (chunk us (j * s.size) s.size)) (h2 : ∀ j, j < ys.length → Rel g s (ys.getD j .Z) (chunk vs (j * s.size) s.size)) :
    ∀ j, j < (xs ++ ys).length → Rel g s ((xs ++ ys).getD j .Z) (chunk (us ++ vs ++ rest) (j * s.size) s.size) := by
  intro j hj
  simp only [List.length_append] at hj
  by_cases hjx : j < xs.length
  · have hb : j * s.size + s.size ≤ us.length := by
      rw [hx]
      calc j * s.size + s.size = (j + 1) * s.size := by rw [Nat.add_mul, Nat.one_mul]
        _ ≤ _ := Nat.mul_le_mul_right _ hjx
    have e1 : (xs ++ ys).getD j .Z = xs.getD j .Z := by simp [List.getD_eq_getElem?_getD, List.getElem?_append_left hjx]
    have e2 : chunk (us ++ vs ++ rest) (j * s.size) s.size = chunk us (j * s.size) s.size := by
      rw [chunk, List.append_assoc, List.drop_append_of_le_length (by omega), List.take_append_of_le_length (by simp; omega), chunk]
    rw [e1, e2]; exact h1 j hjx
  · obtain ⟨k, rfl⟩ : ∃ k, j = xs.length + k := ⟨j - xs.length, by omega⟩
    have hk : k < ys.length := by omega
    have hb : k * s.size + s.size ≤ vs.length := by
      rw [hy]
      calc k * s.size + s.size = (k + 1) * s.size := by rw [Nat.add_mul, Nat.one_mul]
        _ ≤ _ := Nat.mul_le_mul_right _ hk
    have e1 : (xs ++ ys).getD (xs.length + k) .Z = ys.getD k .Z := by
      simp [List.getD_eq_getElem?_getD, List.getElem?_append_right]
    have e2 : chunk (us ++ vs ++ rest) ((xs.length + k) * s.size) s.size = chunk vs (k * s.size) s.size := by
      rw [chunk, List.append_assoc, Nat.add_mul, ← hx, List.drop_length_add_append, List.drop_append_of_le_length (by omega), List.take_append_of_le_length (by simp; omega), chunk]
    rw [e1, e2]; exact h2 k hk

/-- append run, from a slice that owns what lies behind it. -/
theorem append_run {s : Sh} {e t tx : TypeId} {xs ys : List D} {o : Nat} {v y : Value} {tys : Array TypeId} {ty : TypeId} (hl : Lay P (.slice s) t) (hlx : P.underlying tx = some (.slice e))
    (hdat : s.data = true) (ht0 : tys[0]? = some t) (ht1 : tys[1]? = some tx)
    (H : HeapRel w0 hp g loc w) (hn : loc nx = none) (ho : lk hp o = some (.grow s xs)) (hv : HRel g loc (.own o s) v) (hy : Elems P g w s ys y) (hlen : xs.length + ys.length ≤ 1073741824) :
    ∃ v' w' x', (Builtin.append_ tys ty #[v, y]).run P w = .ok v' w' ∧ HeapRel w0 ((nx, .grow s (xs ++ ys)) :: (o, .dead) :: hp) g (loc.upd nx x') w' ∧ HRel g (loc.upd nx x') (.own nx s) v' := by
  simp only [Lay] at hl
  obtain ⟨_, e', hu, hle⟩ := hl
  obtain ⟨ie, hie, hisz, hiz, hib⟩ := hle.ty
  obtain ⟨yb, ycap, rfl, ycells, hyrun, hysz, hyrel⟩ := hy
  have hO := H.obj o _ ho
  have hxE : Elems P g w s xs v := Elems.own hO hv
  have hzc : (mkV s.agg (zcells s)).cells.size = s.size := by
    have hz := Rel.zero (fun _ => none) s hdat
    have h1 : HRel (fun _ => none) (fun _ => none) (.dat s (D0 s)) (mkV s.agg (zcells s)) := HRel.dat_iff.2 ⟨_, hz, rfl⟩
    have h2 := HRel.cells h1
    simp only [HC] at h2
    simpa using h2.length
  -- where it has to grow
  have grow : ∀ sCap base, v = .slice base xs.length sCap → sCap < xs.length + ys.length → ∃ v' w' x', (Builtin.append_ tys ty #[v, .slice yb ys.length ycap]).run P w = .ok v' w' ∧
      HeapRel w0 ((nx, .grow s (xs ++ ys)) :: (o, .dead) :: hp) g (loc.upd nx x') w' ∧ HRel g (loc.upd nx x') (.own nx s) v' := by
    intro sCap base hvb hneed
    obtain ⟨xb, xcap, hv2, xcells, hxrun, hxsz, hxrel⟩ := hxE
    have hcap : Builtin.nextslicecap (xs.length + ys.length) sCap * ie.bytes ≤ 281474976710656 := by
      have h1 := nextslicecap_le (xs.length + ys.length) sCap hneed
      have h2 : Builtin.nextslicecap (xs.length + ys.length) sCap * ie.bytes ≤ (2 * 1073741824 + 768) * 65536 := Nat.mul_le_mul (by omega) hib
      omega
    have hmax : ¬ (((xs.length + ys.length : Nat) : Int) > IntKind.i64.max ∧ (False ∨ ie.bytes = 0)) := by
      have : IntKind.i64.max = 9223372036854775807 := by decide
      omega
    generalize hnc : Question.cut (.appendCap (xs.length + ys.length) sCap e') (w.tape w.drawn (.appendCap (xs.length + ys.length) sCap e')) = newCap
    have hncge : xs.length + ys.length ≤ newCap := by rw [← hnc]; simp only [Question.cut]; omega
    have hrun : (Builtin.append_ tys ty #[v, .slice yb ys.length ycap]).run P w = .ok (.slice (some ⟨w.heap.size, 0, none⟩) (xs.length + ys.length) newCap)
        (w.drew.alloc (.cells (xcells ++ ycells ++ Builtin.zeroCells (mkV s.agg (zcells s)).cells (newCap - (xs.length + ys.length))) e')) := by
      have a1 : (Builtin.firstCells s.size xs.length v).run P w.drew = .ok xcells w.drew := hxrun w.drew rfl
      have a2 : (Builtin.firstCells s.size ys.length (.slice yb ys.length ycap)).run P w.drew = .ok ycells w.drew := hyrun w.drew rfl
      have hzr : ∀ w, (zeroValue e').run P w = .ok (mkV s.agg (zcells s)) w := run_zero ⟨ie, hie, hiz⟩
      have hszr : ∀ w, (sizeOf e').run P w = .ok s.size w := run_size hle.plain
      have hti : ∀ w, (typeInfo e').run P w = .ok ie w := fun w => by simp [typeInfo, hie]
      rw [hvb] at a1 ⊢
      unfold Builtin.append_
      simp only [ht0, ht1, List.getElem?_toArray, List.getElem?_cons_zero, List.getElem?_cons_succ, Sem.run_bind, run_underlying hu, run_underlying hlx, Result.andThen_ok, Sem.run_pure, hszr,
        Bool.false_eq_true, if_false, Builtin.lenOf]
      rw [if_neg (by omega)]
      simp only [Sem.run_bind, hti, Result.andThen_ok]
      rw [if_neg (by simpa using hmax)]
      simp only [Sem.run_bind, hti, Result.andThen_ok]
      rw [if_neg (by omega)]
      simp only [Sem.run_bind, Sem.run_pure, Result.andThen_ok, run_choose, Question.forced, Bool.false_eq_true, if_false, hnc, run_askRoom, hti]
      have dr : ({ w with drawn := w.drawn + 1 } : World) = w.drew := rfl
      rw [dr]
      simp only [a1, Result.andThen_ok, Bool.not_false, if_true, a2, hzr, newRow, Sem.run_bind, run_newObj, Sem.run_pure]
      rfl
    refine ⟨_, _, .at w.heap.size newCap (xs ++ ys).length (.arr (xs ++ ys).length s), hrun, ?_, ?_⟩
    · have Hk := (H.kill o).drew
      have hsz : (Builtin.zeroCells (mkV s.agg (zcells s)).cells (newCap - (xs.length + ys.length))).size = (newCap - (xs.length + ys.length)) * s.size := by rw [zeroCells_size, hzc]
      refine HeapRel.new Hk hn (ExtAll.alloc _ _) _ _ (by intro b hb; simp only [Place.blk, Option.some.injEq] at hb; subst hb; exact Nat.le_refl _) ?_
      right
      refine ⟨w.heap.size, newCap, e', _, Loc.upd_same, heap_alloc_new _ _, ?_, by simp only [List.length_append]; omega, ?_⟩
      · refine Nat.le_of_eq (Eq.symm ?_)
        simp only [Array.size_append, hxsz, hysz, hsz]
        rw [← Nat.add_mul, ← Nat.add_mul]; congr 1; omega
      · simp only [Array.toList_append]
        exact rel_append (by simpa using hxsz) (by simpa using hysz) hxrel hyrel
    · refine ⟨[.slice (some ⟨w.heap.size, 0, none⟩) (xs.length + ys.length) newCap], ?_, rfl⟩
      simp only [HC]
      exact .inr ⟨_, _, _, Loc.upd_same, by simp⟩
  rcases hO with ⟨k1, rfl⟩ | ⟨b, cap, T, cs, k1, k2, k3, k4, k5⟩
  · -- nil
    obtain ⟨us, h1, rfl⟩ := hv
    simp only [HC] at h1
    rcases h1 with ⟨_, a, rfl⟩ | ⟨b', cap', len', e1, rfl⟩
    · by_cases hn0 : ys.length = 0
      · have hys : ys = [] := List.length_eq_zero_iff.1 hn0
        subst hys
        refine ⟨.slice a 0 0, w, .nil, ?_, ?_, ?_⟩
        · have hszr : ∀ w, (sizeOf e').run P w = .ok s.size w := run_size hle.plain
          have a2 : (Builtin.firstCells s.size 0 (.slice yb 0 ycap)).run P w = .ok ycells w := hyrun w rfl
          have hy0 : ycells.toList = [] := List.length_eq_zero_iff.1 (by simpa using hysz)
          unfold Builtin.append_
          cases a with
          | none => simp [ht0, ht1, run_underlying hu, run_underlying hlx, hszr, Builtin.lenOf, mkV, HV.agg, a2]
          | some a => simp [ht0, ht1, run_underlying hu, run_underlying hlx, hszr, Builtin.lenOf, mkV, HV.agg, a2, hy0, storeCells]
        · have := (H.kill o).new hn (ExtAll.refl w) .nil (.grow s []) (by intro b hb; simp [Place.blk] at hb) (.inl ⟨Loc.upd_same, rfl⟩)
          simpa using this
        · exact ⟨_, by simp only [HC]; exact .inl ⟨Loc.upd_same, a, rfl⟩, rfl⟩
      · exact grow 0 a rfl (by simp; omega)
    · rw [k1] at e1; cases e1
  · have hv0 := hv
    obtain ⟨us, h1, rfl⟩ := hv
    simp only [HC] at h1
    rcases h1 with ⟨e1, _, rfl⟩ | ⟨b', cap', len', e1, rfl⟩
    · rw [k1] at e1; cases e1
    · rw [k1] at e1
      simp only [Option.some.injEq, Place.at.injEq] at e1
      obtain ⟨rfl, rfl, rfl, _⟩ := e1
      by_cases hneed : xs.length + ys.length ≤ cap
      · have hle1 : xs.length * s.size + ys.length * s.size ≤ cs.size := by
          refine Nat.le_trans ?_ k3
          rw [← Nat.add_mul]; exact Nat.mul_le_mul_right _ hneed
        have hone : ∀ x ∈ ycells.toList, x.oneCell' = true := by
          intro x hx
          obtain ⟨i, hi, rfl⟩ := List.getElem_of_mem hx
          simp only [Array.length_toList] at hi
          rw [hysz] at hi
          by_cases hs : s.size = 0
          · rw [hs] at hi; omega
          · have hpos : 0 < s.size := by omega
            have hj : i / s.size < ys.length := (Nat.div_lt_iff_lt_mul hpos).2 hi
            refine Rel.one (hyrel (i / s.size) hj) _ ?_
            have e : i = i / s.size * s.size + i % s.size := by rw [Nat.mul_comm]; exact (Nat.div_add_mod i s.size).symm
            have hm : i % s.size < s.size := Nat.mod_lt _ hpos
            have : (chunk ycells.toList (i / s.size * s.size) s.size)[i % s.size]? = ycells.toList[i]? := by
              simp only [chunk, List.getElem?_take, hm, if_true, List.getElem?_drop]
              rw [← e]
            exact List.mem_of_getElem? (by rw [this, List.getElem?_eq_getElem])
        have hst := run_storeCells_at P b (xs.length * s.size) T ycells.toList 0 cs w k2 (by simp [hysz]; omega) hone
        have hrun : (Builtin.append_ tys ty #[.slice (some ⟨b, 0, none⟩) xs.length cap, .slice yb ys.length ycap]).run P w =
            .ok (.slice (some ⟨b, 0, none⟩) (xs.length + ys.length) cap) (w.setRow b (splice cs.toList (xs.length * s.size) ycells.toList).toArray) := by
          have hszr : ∀ w, (sizeOf e').run P w = .ok s.size w := run_size hle.plain
          have a2 : (Builtin.firstCells s.size ys.length (.slice yb ys.length ycap)).run P w = .ok ycells w := hyrun w rfl
          unfold Builtin.append_
          simp only [ht0, ht1, List.getElem?_toArray, List.getElem?_cons_zero, List.getElem?_cons_succ, Sem.run_bind, run_underlying hu, run_underlying hlx, Result.andThen_ok, Sem.run_pure, hszr,
            Bool.false_eq_true, if_false, Builtin.lenOf]
          rw [if_pos hneed]
          simp only [Sem.run_bind, Bool.not_false, if_true, a2, Result.andThen_ok, addr_add, Nat.zero_add, hst, Sem.run_pure, splice, Nat.add_zero]
        refine ⟨_, _, .at b cap (xs ++ ys).length (.arr (xs ++ ys).length s), hrun, ?_, ?_⟩
        · refine HeapRel.renew H hn ho rfl k1 rfl rfl (setRow_size _ _ _) (fun k hk => setRow_other _ _ _ _ hk) ⟨rfl, rfl⟩ ?_
          right
          have hspl : (splice cs.toList (xs.length * s.size) ycells.toList).length = cs.size := by
            rw [splice_length _ _ _ (by simp [hysz]; omega)]; simp
          refine ⟨b, cap, T, _, Loc.upd_same, setRow_same _ k2, by simpa [hspl] using k3, by simp only [List.length_append]; omega, ?_⟩
          simp only [splice]
          refine rel_append (by simp; omega) (by simpa using hysz) ?_ hyrel
          intro j hj
          have hb : j * s.size + s.size ≤ xs.length * s.size := by
            calc j * s.size + s.size = (j + 1) * s.size := by rw [Nat.add_mul, Nat.one_mul]
              _ ≤ _ := Nat.mul_le_mul_right _ hj
          have := k5 j hj
          rw [chunk, List.drop_take, List.take_take]
          have e3 : min s.size (xs.length * s.size - j * s.size) = s.size := by omega
          rw [e3]; exact this
        · refine ⟨[.slice (some ⟨b, 0, none⟩) (xs.length + ys.length) cap], ?_, rfl⟩
          simp only [HC]
          exact .inr ⟨_, _, _, Loc.upd_same, by simp⟩
      · exact grow cap (some ⟨b, 0, none⟩) rfl (by omega)
end
end Go.Vm

noncomputable section
namespace Go.Vm
open Go

def mHas (k : Int) : List (D × D) → Bool
  | [] => false
  | (k', _) :: es => decide (k'.int = k) || mHas k es
def mGet (z : D) (k : Int) : List (D × D) → D
  | [] => z
  | (k', v) :: es => if k'.int = k then v else mGet z k es
def mPut (k v : D) : List (D × D) → List (D × D)
  | [] => [(k, v)]
  | (k', v') :: es => if k'.int = k.int then (k, v) :: es else (k', v') :: mPut k v es

theorem mPut_length (k v : D) : ∀ es : List (D × D), (mPut k v es).length = if mHas k.int es = true then es.length else es.length + 1
  | [] => by simp [mPut, mHas]
  | (k', v') :: es => by
    have ih := mPut_length k v es
    simp only [mPut, mHas]
    by_cases h : k'.int = k.int
    · simp [h]
    · simp only [h, if_false, decide_false, Bool.false_or, List.length_cons, ih]
      split <;> simp
theorem mGet_none {z : D} {k : Int} : ∀ {es : List (D × D)}, mHas k es = false → mGet z k es = z
  | [], _ => rfl
  | (k', v') :: es, h => by
    simp only [mHas, Bool.or_eq_false_iff, decide_eq_false_iff_not] at h
    simp only [mGet, if_neg h.1]; exact mGet_none h.2

section
variable {g : Ghost}

theorem EntR.append {ks vs : Sh} {k v : D} {e : MapEntry} : ∀ {i : Nat} {es : List (D × D)} {arr : List MapEntry}, EntR g ks vs i es arr → e.born = i + es.length → (∃ us, Rel g ks k us ∧ e.key = mkV ks.agg us) → (∃ us, Rel g vs v us ∧ e.val = mkV vs.agg us) →
    EntR g ks vs i (es ++ [(k, v)]) (arr ++ [e])
  | i, [], [], _, hb, hk, hv => by
    simp only [List.nil_append, EntR]
    exact ⟨by simpa using hb, hk, hv, trivial⟩
  | i, (k', v') :: es, e' :: arr, h, hb, hk, hv => by
    simp only [EntR, List.cons_append] at h ⊢
    exact ⟨h.1, h.2.1, h.2.2.1, EntR.append h.2.2.2 (by rw [hb]; simp; omega) hk hv⟩
  | _, [], _ :: _, h, _, _, _ => by simp [EntR] at h
  | _, _ :: _, [], h, _, _, _ => by simp [EntR] at h
theorem EntR.length {ks vs : Sh} : ∀ {i : Nat} {es : List (D × D)} {arr : List MapEntry}, EntR g ks vs i es arr → arr.length = es.length
  | _, [], [], _ => rfl
  | _, _ :: _, _ :: _, h => by simp only [EntR] at h; simp [h.2.2.2.length]
  | _, [], _ :: _, h => by simp [EntR] at h
  | _, _ :: _, [], h => by simp [EntR] at h
theorem EntR.get {ks vs : Sh} : ∀ {i : Nat} {es : List (D × D)} {arr : List MapEntry}, EntR g ks vs i es arr → ∀ j p, es[j]? = some p → ∃ e, arr[j]? = some e ∧ e.born = i + j ∧ (∃ us, Rel g ks p.1 us ∧ e.key = mkV ks.agg us) ∧ ∃ us, Rel g vs p.2 us ∧ e.val = mkV vs.agg us
  | _, [], [], _, j, p, hp => by simp at hp
  | i, (k, v) :: es, e :: arr, h, 0, p, hp => by
    simp only [EntR] at h
    simp only [List.getElem?_cons_zero, Option.some.injEq] at hp
    subst hp
    exact ⟨e, rfl, h.1, h.2.1, h.2.2.1⟩
  | i, (k, v) :: es, e :: arr, h, j + 1, p, hp => by
    simp only [EntR] at h
    simp only [List.getElem?_cons_succ] at hp
    obtain ⟨e', h1, h2, h3, h4⟩ := h.2.2.2.get j p hp
    exact ⟨e', by simpa using h1, by omega, h3, h4⟩
  | _, [], _ :: _, h, _, _, _ => by simp [EntR] at h
  | _, _ :: _, [], h, _, _, _ => by simp [EntR] at h

theorem mPut_new {k v : D} : ∀ {es : List (D × D)}, mHas k.int es = false → mPut k v es = es ++ [(k, v)]
  | [], _ => rfl
  | (k', v') :: es, h => by
    simp only [mHas, Bool.or_eq_false_iff, decide_eq_false_iff_not] at h
    simp only [mPut, if_neg h.1, mPut_new h.2, List.cons_append]

/-- Where a key is found. -/
theorem findNow_int {q : IntKind} {vs : Sh} {n : Int} {z : D} : ∀ {i0 i : Nat} {es : List (D × D)} {arr : List MapEntry}, EntR g (.int q) vs i0 es arr →
    (mHas n es = false ∧ Instr.findNow (.int q) (.int q n) arr i = some none) ∨
    ∃ j e, mHas n es = true ∧ Instr.findNow (.int q) (.int q n) arr i = some (some (i + j, e.val)) ∧ arr[j]? = some e ∧ e.key = .int q n ∧ (∃ us, Rel g vs (mGet z n es) us ∧ e.val = mkV vs.agg us) ∧
      ∀ k v us, k.int = n → q.min ≤ n → n ≤ q.max → Rel g vs v us → EntR g (.int q) vs i0 (mPut k v es) (arr.modify j fun e => { e with key := .int q n, val := mkV vs.agg us })
  | _, _, [], [], _ => .inl ⟨rfl, rfl⟩
  | i0, i, (k', v') :: es, e :: arr, h => by
    simp only [EntR] at h
    obtain ⟨h1, ⟨us, h2, h3⟩, h4, h5⟩ := h
    simp only [Rel] at h2
    obtain ⟨rfl, hr⟩ := h2
    have hk : e.key = .int q k'.int := h3
    have hs : Instr.sameNow (.int q) (.int q n) e.key = some (n == k'.int) := by rw [hk]; simp [Instr.sameNow]
    by_cases he : k'.int = n
    · right
      refine ⟨0, e, by simp [mHas, he], ?_, rfl, by rw [hk, he], ?_, ?_⟩
      · simp only [Instr.findNow, hs]
        simp [he]
      · simpa only [mGet, if_pos he] using h4
      · intro k v us hkn hmin hmax hv
        simp only [mPut, hkn, if_pos he]
        show EntR g (.int q) vs i0 ((k, v) :: es) ({ e with key := .int q n, val := mkV vs.agg us } :: arr)
        simp only [EntR]
        exact ⟨h1, ⟨[.int q n], by simp only [Rel]; exact ⟨by rw [hkn], by rw [hkn]; exact ⟨hmin, hmax⟩⟩, rfl⟩, ⟨us, hv, rfl⟩, h5⟩
    · have hb : (n == k'.int) = false := by simp; omega
      rcases findNow_int (n := n) (z := z) (i := i + 1) h5 with ⟨a1, a2⟩ | ⟨j, e', a1, a2, a3, a4, a5, a6⟩
      · left
        refine ⟨by simp [mHas, he, a1], ?_⟩
        simp only [Instr.findNow, hs, hb]
        exact a2
      · right
        refine ⟨j + 1, e', by simp [mHas, a1], ?_, by simpa using a3, a4, ?_, ?_⟩
        · simp only [Instr.findNow, hs, hb]
          rw [a2]; congr 3; omega
        · simpa only [mGet, if_neg he] using a5
        · intro k v us hkn hmin hmax hv
          have := a6 k v us hkn hmin hmax hv
          simp only [mPut, hkn, if_neg he]
          show EntR g (.int q) vs i0 ((k', v') :: mPut k v es) (e :: arr.modify j _)
          simp only [EntR]
          exact ⟨h1, ⟨[.int q k'.int], by simp only [Rel]; exact ⟨trivial, hr⟩, h3⟩, h4, this⟩
  | _, _, [], _ :: _, h => by simp [EntR] at h
  | _, _, _ :: _, [], h => by simp [EntR] at h
end

section
variable {P : Program} {g : Ghost} {w : World}

theorem run_lookup_int {t kt et : TypeId} {q : IntKind} {vs : Sh} {es : List (D × D)} {arr : Array MapEntry} {cl b : Nat} {n : Int} {z : Value} (hu : P.underlying t = some (.map kt et)) (hk : P.underlying kt = some (.int q))
    (hb : w.heap[b]? = some (.map arr cl)) (hE : EntR g (.int q) vs 0 es arr.toList) (hz : ∀ w, (zeroValue et).run P w = .ok z w) (hzr : ∃ us, Rel g vs (D0 vs) us ∧ z = mkV vs.agg us) (c : Bool) :
    ∃ us, Rel g vs (mGet (D0 vs) n es) us ∧ (Instr.lookup t (.map (some b)) (.int q n) c).run P w = .ok (if c then .tuple #[mkV vs.agg us, .bool (mHas n es)] else mkV vs.agg us) w := by
  have hck : ∀ e, (Instr.checkKey e 10000 kt (.int q n)).run P w = .ok () w := fun e => MapKept.run_checkKey (d := .int q) hk (by simp [MapKept.IsKey]) e 9999
  rcases findNow_int (n := n) (z := D0 vs) (i := 0) hE with ⟨a1, a2⟩ | ⟨j, e', a1, a2, a3, a4, ⟨us, a5, a6⟩, _⟩
  · obtain ⟨us, h1, h2⟩ := hzr
    refine ⟨us, by rw [mGet_none a1]; exact h1, ?_⟩
    have hf := MapKept.run_findKey (P := P) (w := w) (kt := kt) (d := .int q) hk a2
    simp only [Instr.lookup, Sem.run_bind, run_underlying hu, Result.andThen_ok, Sem.run_pure, MapKept.run_getObj_map hb, hck, hf, hz, a1, h2]
  · refine ⟨us, a5, ?_⟩
    have hf := MapKept.run_findKey (P := P) (w := w) (kt := kt) (d := .int q) hk a2
    simp only [Instr.lookup, Sem.run_bind, run_underlying hu, Result.andThen_ok, Sem.run_pure, MapKept.run_getObj_map hb, hck, hf, a1, a6]

theorem run_mapUpdate_int {t kt et : TypeId} {q : IntKind} {vs : Sh} {es : List (D × D)} {arr : Array MapEntry} {b : Nat} {k v : D} {us : List Value} (hu : P.underlying t = some (.map kt et)) (hk : P.underlying kt = some (.int q))
    (hb : w.heap[b]? = some (.map arr es.length)) (hE : EntR g (.int q) vs 0 es arr.toList) (hr : q.min ≤ k.int ∧ k.int ≤ q.max) (hv : Rel g vs v us) :
    ∃ arr' : Array MapEntry, (Instr.mapUpdate t (.map (some b)) (.int q k.int) (mkV vs.agg us)).run P w = .ok () { w with heap := w.heap.setIfInBounds b (.map arr' (mPut k v es).length) } ∧ EntR g (.int q) vs 0 (mPut k v es) arr'.toList := by
  have hck : ∀ e, (Instr.checkKey e 10000 kt (.int q k.int)).run P w = .ok () w := fun e => MapKept.run_checkKey (d := .int q) hk (by simp [MapKept.IsKey]) e 9999
  rcases findNow_int (n := k.int) (z := D0 vs) (i := 0) hE with ⟨a1, a2⟩ | ⟨j, e', a1, a2, a3, a4, _, a6⟩
  · have hf := MapKept.run_findKey (P := P) (w := w) (kt := kt) (d := .int q) hk a2
    refine ⟨arr.push { key := .int q k.int, val := mkV vs.agg us, born := es.length }, ?_, ?_⟩
    · simp only [Instr.mapUpdate, Sem.run_bind, run_underlying hu, Result.andThen_ok, MapKept.run_getObj_map hb, hck, hf, MapKept.run_setObj_map _ hb, mPut_length, a1, Bool.false_eq_true, if_false]
    · rw [mPut_new a1]
      have : (arr.push { key := .int q k.int, val := mkV vs.agg us, born := es.length }).toList = arr.toList ++ [{ key := .int q k.int, val := mkV vs.agg us, born := es.length }] := by simp
      rw [this]
      exact EntR.append hE (by simp) ⟨[.int q k.int], by simp only [Rel]; exact ⟨trivial, hr⟩, rfl⟩ ⟨us, hv, rfl⟩
  · have hf := MapKept.run_findKey (P := P) (w := w) (kt := kt) (d := .int q) hk a2
    rw [Nat.zero_add] at hf
    have hst : (Instr.keyThatStays (((arr[j]?).map (·.key)).getD (.int q k.int)) (.int q k.int)).run P w = .ok (.int q k.int) w := by
      have : arr[j]? = some e' := by simpa using a3
      rw [this]
      simp only [Option.map_some, Option.getD_some, a4]
      exact MapKept.run_keyThatStays (d := .int q) (by simp [MapKept.IsKey])
    refine ⟨arr.modify j fun e => { e with key := .int q k.int, val := mkV vs.agg us }, ?_, ?_⟩
    · simp only [Instr.mapUpdate, Sem.run_bind, run_underlying hu, Result.andThen_ok, MapKept.run_getObj_map hb, hck, hf, hst, MapKept.run_setObj_map _ hb, mPut_length, a1, if_true]
    · have := a6 k v us rfl hr.1 hr.2 hv
      simpa using this
end

/-! ### Keys that are structs of whole numbers -/
def allInt : List Sh → Bool
  | [] => true
  | .int _ :: ss => allInt ss
  | _ :: _ => false
def mHasS (ss : List Sh) (k : D) : List (D × D) → Bool
  | [] => false
  | (k', _) :: es => eqD (.struct ss) k k' || mHasS ss k es
def mGetS (ss : List Sh) (z k : D) : List (D × D) → D
  | [] => z
  | (k', v) :: es => match eqD (.struct ss) k k' with
    | true => v
    | false => mGetS ss z k es
def mPutS (ss : List Sh) (k v : D) : List (D × D) → List (D × D)
  | [] => [(k, v)]
  | (k', v') :: es => match eqD (.struct ss) k k' with
    | true => (k, v) :: es
    | false => (k', v') :: mPutS ss k v es
theorem mPutS_length (ss : List Sh) (k v : D) : ∀ es : List (D × D), (mPutS ss k v es).length = if mHasS ss k es = true then es.length else es.length + 1
  | [] => by simp [mPutS, mHasS]
  | (k', v') :: es => by
    have ih := mPutS_length ss k v es
    rcases Bool.eq_false_or_eq_true (eqD (.struct ss) k k') with h | h
    · simp [mPutS, mHasS, h]
    · simp only [mPutS, mHasS, h, Bool.false_or, List.length_cons, ih]; split <;> simp
theorem mGetS_none {ss : List Sh} {z k : D} : ∀ {es : List (D × D)}, mHasS ss k es = false → mGetS ss z k es = z
  | [], _ => rfl
  | (k', v') :: es, h => by
    simp only [mHasS, Bool.or_eq_false_iff] at h
    simp only [mGetS, h.1]; exact mGetS_none h.2
theorem mPutS_new {ss : List Sh} {k v : D} : ∀ {es : List (D × D)}, mHasS ss k es = false → mPutS ss k v es = es ++ [(k, v)]
  | [], _ => rfl
  | (k', v') :: es, h => by
    simp only [mHasS, Bool.or_eq_false_iff] at h
    simp only [mPutS, h.1, mPutS_new h.2, List.cons_append]
theorem allInt_flat : ∀ {ss : List Sh}, allInt ss = true → Sh.flats ss = true
  | [], _ => rfl
  | .int _ :: ss, h => by simp only [Sh.flats, Sh.flat, Bool.true_and]; exact allInt_flat (by simpa [allInt] using h)
  | .bool :: _, h => by simp [allInt] at h
  | .str :: _, h => by simp [allInt] at h
  | .struct _ :: _, h => by simp [allInt] at h
  | .arr _ _ :: _, h => by simp [allInt] at h
  | .slice _ :: _, h => by simp [allInt] at h
  | .ref :: _, h => by simp [allInt] at h
theorem allInt_depth : ∀ {ss : List Sh}, allInt ss = true → Sh.depths ss ≤ 1
  | [], _ => by simp [Sh.depths]
  | .int _ :: ss, h => by
    have := allInt_depth (ss := ss) (by simpa [allInt] using h)
    simp only [Sh.depths, Sh.depth]; omega
  | .bool :: _, h => by simp [allInt] at h
  | .str :: _, h => by simp [allInt] at h
  | .struct _ :: _, h => by simp [allInt] at h
  | .arr _ _ :: _, h => by simp [allInt] at h
  | .slice _ :: _, h => by simp [allInt] at h
  | .ref :: _, h => by simp [allInt] at h
section
variable {g : Ghost}
/-- Equal keys are the same cells, each of them a whole number. -/
theorem rels_int_eq : ∀ {ss : List Sh} {i : Nat} {a b : D} {xs ys : List Value}, allInt ss = true → Rels g ss i a xs → Rels g ss i b ys → eqDs ss i a b = true → xs = ys
  | [], _, _, _, _, _, _, hx, hy, _ => by simp only [Rels] at hx hy; rw [hx, hy]
  | .int k :: ss, i, a, b, xs, ys, h, hx, hy, he => by
    simp only [Rels, Rel, Sh.size] at hx hy
    simp only [eqDs, eqD, Bool.and_eq_true, beq_iff_eq] at he
    have ih := rels_int_eq (by simpa [allInt] using h) hx.2.2 hy.2.2 he.2
    rw [← List.take_append_drop 1 xs, ← List.take_append_drop 1 ys, ih, hx.2.1.1, hy.2.1.1, he.1]
  | .bool :: _, _, _, _, _, _, h, _, _, _ => by simp [allInt] at h
  | .str :: _, _, _, _, _, _, h, _, _, _ => by simp [allInt] at h
  | .struct _ :: _, _, _, _, _, _, h, _, _, _ => by simp [allInt] at h
  | .arr _ _ :: _, _, _, _, _, _, h, _, _, _ => by simp [allInt] at h
  | .slice _ :: _, _, _, _, _, _, h, _, _, _ => by simp [allInt] at h
  | .ref :: _, _, _, _, _, _, h, _, _, _ => by simp [allInt] at h
theorem rels_int_all : ∀ {ss : List Sh} {i : Nat} {a : D} {xs : List Value}, allInt ss = true → Rels g ss i a xs → ∀ v, v ∈ xs → ∃ q n, v = Value.int q n
  | [], _, _, _, _, hx, v, hv => by simp only [Rels] at hx; rw [hx] at hv; cases hv
  | .int k :: ss, i, a, xs, h, hx, v, hv => by
    simp only [Rels, Rel, Sh.size] at hx
    rw [← List.take_append_drop 1 xs, List.mem_append, hx.2.1.1] at hv
    rcases hv with hv | hv
    · rw [List.mem_singleton] at hv; exact ⟨_, _, hv⟩
    · exact rels_int_all (by simpa [allInt] using h) hx.2.2 v hv
  | .bool :: _, _, _, _, h, _, _, _ => by simp [allInt] at h
  | .str :: _, _, _, _, h, _, _, _ => by simp [allInt] at h
  | .struct _ :: _, _, _, _, h, _, _, _ => by simp [allInt] at h
  | .arr _ _ :: _, _, _, _, h, _, _, _ => by simp [allInt] at h
  | .slice _ :: _, _, _, _, h, _, _, _ => by simp [allInt] at h
  | .ref :: _, _, _, _, h, _, _, _ => by simp [allInt] at h
theorem sameBits_ints {xs : Array Value} (h : ∀ v, v ∈ xs.toList → ∃ q n, v = Value.int q n) (n : Nat) : Instr.sameBits (n + 1) (.agg xs) (.agg xs) = true := by
  simp only [Instr.sameBits, beq_self_eq_true, Bool.true_and, List.all_eq_true]
  intro p hp
  obtain ⟨i, hi, rfl⟩ := List.getElem_of_mem hp
  have h1 : i < xs.toList.length := by simpa using hi
  obtain ⟨q, m, e⟩ := h _ (List.getElem_mem h1)
  simp only [List.getElem_zip]
  rw [e]
  simp [Instr.sameBits]

variable {P : Program} {w : World}
theorem checkKey_ints {ss : List Sh} {kt : TypeId} {k : D} {us : List Value} (hl : Lay P (.struct ss) kt) (ha : allInt ss = true) (hk : Rel g (.struct ss) k us) (e : Bool) (n : Nat) (w : World) : (Instr.checkKey e (n + 2) kt (.agg us.toArray)).run P w = .ok () w := by
  simp only [Lay] at hl
  obtain ⟨_, ⟨fs, hu, hls⟩, _⟩ := hl
  simp only [Rel] at hk
  have key : ∀ (ss : List Sh) (l : List Field) (off i : Nat), Lays P ss off l → allInt ss = true → Rels g ss i k (us.drop off) → ∀ w, ((forIn (m := Sem) l () fun f _ => do
      if f.name ≠ "_" then
        let __do_lift ← part f.type us.toArray f.offset
        Instr.checkKey e (n + 1) f.type __do_lift
        pure (ForInStep.yield ())
      else pure (ForInStep.yield ()))).run P w = .ok () w := by
    intro ss
    induction ss with
    | nil =>
      intro l off i h _ _ w
      cases l with
      | nil => simp
      | cons f l => simp [Lays] at h
    | cons s ss ih =>
      intro l off i h ha hr w
      cases l with
      | nil => simp [Lays] at h
      | cons f l =>
        simp only [Lays] at h
        obtain ⟨ho, hn, hs, hlf, hlt⟩ := h
        simp only [Rels] at hr
        obtain ⟨r1, r2, r3⟩ := hr
        cases s with
        | int q =>
          rw [List.forIn_cons]
          have hsz : (Sh.int q).size = 1 := rfl
          rw [hsz] at r1 r2 r3
          have hp := run_part hlf.plain Sh.size_one us.toArray f.offset (by rw [ho, hsz]; simp only [List.length_drop] at r1; simp; omega) w
          simp only [Rel] at r2
          have hv : mkV (Sh.int q).agg (chunk us.toArray.toList f.offset (Sh.int q).size) = .int q (k.nth i).int := by
            rw [hsz, ho]; simp only [chunk]; rw [r2.1]; rfl
          rw [hv] at hp
          have hck := MapKept.run_checkKey (P := P) (w := w) (kt := f.type) (d := .int q) (k := .int q (k.nth i).int) (by simpa only [Lay] using hlf.2) (by simp [MapKept.IsKey]) e n
          rw [if_pos hn]
          simp only [Sem.run_bind, hp, Result.andThen_ok, hck, Sem.run_pure]
          refine ih l (off + 1) (i + 1) hlt (by simpa [allInt] using ha) ?_ w
          rw [← List.drop_drop]; exact r3
        | _ => simp [allInt] at ha
  unfold Instr.checkKey
  simp only [Sem.run_bind, run_underlying hu, Result.andThen_ok]
  rw [← Array.forIn_toList]
  have := key ss fs.toList 0 0 hls ha (by simpa using hk) w
  rw [this]; rfl

theorem findNow_struct {q : List Field} : ∀ {k : Value} {es : List MapEntry} {i : Nat}, es ≠ [] → Instr.findNow (.struct q.toArray) k es i = none
  | k, e :: es, i, _ => by simp [Instr.findNow, Instr.sameNow]
  | _, [], _, h => absurd rfl h

/-- Where a key is found. -/
theorem findAsking_struct {ss : List Sh} {vs : Sh} {kt : TypeId} {n : D} {us0 : List Value} {z : D} (hl : Lay P (.struct ss) kt) (ha : allInt ss = true) (hn : Rel g (.struct ss) n us0) : ∀ {i0 i : Nat} {es : List (D × D)} {arr : List MapEntry}, EntR g (.struct ss) vs i0 es arr →
    (mHasS ss n es = false ∧ ∀ w, (Instr.findAsking kt (.agg us0.toArray) arr i).run P w = .ok none w) ∨
    ∃ j e, mHasS ss n es = true ∧ (∀ w, (Instr.findAsking kt (.agg us0.toArray) arr i).run P w = .ok (some (i + j, e.val)) w) ∧ arr[j]? = some e ∧ e.key = .agg us0.toArray ∧ (∃ us, Rel g vs (mGetS ss z n es) us ∧ e.val = mkV vs.agg us) ∧
      ∀ v us, Rel g vs v us → EntR g (.struct ss) vs i0 (mPutS ss n v es) (arr.modify j fun e => { e with key := .agg us0.toArray, val := mkV vs.agg us })
  | _, _, [], [], _ => .inl ⟨rfl, fun _ => rfl⟩
  | i0, i, (k', v') :: es, e :: arr, h => by
    simp only [EntR] at h
    obtain ⟨h1, ⟨us, h2, h3⟩, h4, h5⟩ := h
    have hk : e.key = .agg us.toArray := h3
    have heq : ∀ w, (Op.equal kt (.agg us0.toArray) e.key).run P w = .ok (eqD (.struct ss) n k') w := by
      intro w
      rw [hk]
      exact equalIn_run (P := P) (g := g) (s := .struct ss) (t := kt) 10000 hl (by simpa [Sh.flat] using allInt_flat ha) (by have := allInt_depth ha; simp only [Sh.depth]; omega) hn h2 w
    cases he : eqD (.struct ss) n k' with
    | true =>
      right
      have hus : us0 = us := by
        simp only [Rel] at hn h2
        exact rels_int_eq ha hn h2 (by simpa only [eqD] using he)
      refine ⟨0, e, by simp [mHasS, he], fun w => ?_, rfl, by rw [hk, hus], ?_, ?_⟩
      · simp only [Instr.findAsking, Sem.run_bind, heq, Result.andThen_ok, he, if_true, Sem.run_pure]; rfl
      · simpa only [mGetS, he] using h4
      · intro v us' hv
        simp only [mPutS, he]
        show EntR g (.struct ss) vs i0 ((n, v) :: es) ({ e with key := .agg us0.toArray, val := mkV vs.agg us' } :: arr)
        simp only [EntR]
        exact ⟨h1, ⟨us0, hn, rfl⟩, ⟨us', hv, rfl⟩, h5⟩
    | false =>
      rcases findAsking_struct (z := z) (i := i + 1) hl ha hn h5 with ⟨a1, a2⟩ | ⟨j, e', a1, a2, a3, a4, a5, a6⟩
      · left
        refine ⟨by simp [mHasS, he, a1], fun w => ?_⟩
        simp only [Instr.findAsking, Sem.run_bind, heq, Result.andThen_ok, he, Bool.false_eq_true, if_false]
        exact a2 w
      · right
        refine ⟨j + 1, e', by simp [mHasS, a1], fun w => ?_, by simpa using a3, a4, ?_, ?_⟩
        · simp only [Instr.findAsking, Sem.run_bind, heq, Result.andThen_ok, he, Bool.false_eq_true, if_false]
          rw [a2]; congr 3; omega
        · simpa only [mGetS, he] using a5
        · intro v us' hv
          have := a6 v us' hv
          simp only [mPutS, he]
          show EntR g (.struct ss) vs i0 ((k', v') :: mPutS ss n v es) (e :: arr.modify j _)
          simp only [EntR]
          exact ⟨h1, ⟨us, h2, h3⟩, h4, this⟩
  | _, _, [], _ :: _, h => by simp [EntR] at h
  | _, _, _ :: _, [], h => by simp [EntR] at h

theorem findKey_struct {ss : List Sh} {kt : TypeId} {k : Value} {arr : List MapEntry} {r : Option (Nat × Value)} (hl : Lay P (.struct ss) kt) (h : ∀ w, (Instr.findAsking kt k arr).run P w = .ok r w) (w : World) : (Instr.findKey kt k arr).run P w = .ok r w := by
  simp only [Lay] at hl
  obtain ⟨_, ⟨fs, hu, _⟩, _⟩ := hl
  simp only [Instr.findKey, Sem.run_bind, run_underlying hu, Result.andThen_ok]
  cases arr with
  | nil =>
    have := h w
    simp only [Instr.findAsking, Sem.run_pure] at this
    simp only [Instr.findNow, Sem.run_pure]
    exact this
  | cons e es =>
    have := findNow_struct (q := fs.toList) (k := k) (es := e :: es) (i := 0) (by simp)
    simp only [Array.toArray_toList] at this
    rw [this]; exact h w

theorem run_lookup_struct {t kt et : TypeId} {ss : List Sh} {vs : Sh} {es : List (D × D)} {arr : Array MapEntry} {cl b : Nat} {n : D} {us0 : List Value} {z : Value} (hu : P.underlying t = some (.map kt et)) (hl : Lay P (.struct ss) kt) (ha : allInt ss = true)
    (hb : w.heap[b]? = some (.map arr cl)) (hE : EntR g (.struct ss) vs 0 es arr.toList) (hn : Rel g (.struct ss) n us0) (hz : ∀ w, (zeroValue et).run P w = .ok z w) (hzr : ∃ us, Rel g vs (D0 vs) us ∧ z = mkV vs.agg us) (c : Bool) :
    ∃ us, Rel g vs (mGetS ss (D0 vs) n es) us ∧ (Instr.lookup t (.map (some b)) (.agg us0.toArray) c).run P w = .ok (if c then .tuple #[mkV vs.agg us, .bool (mHasS ss n es)] else mkV vs.agg us) w := by
  have hck : ∀ e, (Instr.checkKey e 10000 kt (.agg us0.toArray)).run P w = .ok () w := fun e => checkKey_ints hl ha hn e 9998 w
  rcases findAsking_struct (z := D0 vs) (i := 0) hl ha hn hE with ⟨a1, a2⟩ | ⟨j, e', a1, a2, a3, a4, ⟨us, a5, a6⟩, _⟩
  · obtain ⟨us, h1, h2⟩ := hzr
    refine ⟨us, by rw [mGetS_none a1]; exact h1, ?_⟩
    have hf := findKey_struct (arr := arr.toList) hl a2 w
    simp only [Instr.lookup, Sem.run_bind, run_underlying hu, Result.andThen_ok, Sem.run_pure, MapKept.run_getObj_map hb, hck, hf, hz, a1, h2]
  · refine ⟨us, a5, ?_⟩
    have hf := findKey_struct (arr := arr.toList) hl a2 w
    simp only [Instr.lookup, Sem.run_bind, run_underlying hu, Result.andThen_ok, Sem.run_pure, MapKept.run_getObj_map hb, hck, hf, a1, a6]

theorem run_mapUpdate_struct {t kt et : TypeId} {ss : List Sh} {vs : Sh} {es : List (D × D)} {arr : Array MapEntry} {b : Nat} {k v : D} {us0 us : List Value} (hu : P.underlying t = some (.map kt et)) (hl : Lay P (.struct ss) kt) (ha : allInt ss = true)
    (hb : w.heap[b]? = some (.map arr es.length)) (hE : EntR g (.struct ss) vs 0 es arr.toList) (hk : Rel g (.struct ss) k us0) (hv : Rel g vs v us) :
    ∃ arr' : Array MapEntry, (Instr.mapUpdate t (.map (some b)) (.agg us0.toArray) (mkV vs.agg us)).run P w = .ok () { w with heap := w.heap.setIfInBounds b (.map arr' (mPutS ss k v es).length) } ∧ EntR g (.struct ss) vs 0 (mPutS ss k v es) arr'.toList := by
  have hck : ∀ e, (Instr.checkKey e 10000 kt (.agg us0.toArray)).run P w = .ok () w := fun e => checkKey_ints hl ha hk e 9998 w
  rcases findAsking_struct (z := D0 vs) (i := 0) hl ha hk hE with ⟨a1, a2⟩ | ⟨j, e', a1, a2, a3, a4, _, a6⟩
  · have hf := findKey_struct (arr := arr.toList) hl a2 w
    refine ⟨arr.push { key := .agg us0.toArray, val := mkV vs.agg us, born := es.length }, ?_, ?_⟩
    · simp only [Instr.mapUpdate, Sem.run_bind, run_underlying hu, Result.andThen_ok, MapKept.run_getObj_map hb, hck, hf, MapKept.run_setObj_map _ hb, mPutS_length, a1, Bool.false_eq_true, if_false]
    · rw [mPutS_new a1]
      have : (arr.push { key := .agg us0.toArray, val := mkV vs.agg us, born := es.length }).toList = arr.toList ++ [{ key := .agg us0.toArray, val := mkV vs.agg us, born := es.length }] := by simp
      rw [this]
      exact EntR.append hE (by simp) ⟨us0, hk, rfl⟩ ⟨us, hv, rfl⟩
  · have hf := findKey_struct (arr := arr.toList) hl a2 w
    rw [Nat.zero_add] at hf
    have hst : (Instr.keyThatStays (((arr[j]?).map (·.key)).getD (.agg us0.toArray)) (.agg us0.toArray)).run P w = .ok (.agg us0.toArray) w := by
      have : arr[j]? = some e' := by simpa using a3
      rw [this]
      simp only [Option.map_some, Option.getD_some, a4]
      simp only [Rel] at hk
      have hs := sameBits_ints (xs := us0.toArray) (fun v hv => rels_int_all ha hk v (by simpa using hv)) 9999
      simp only [Instr.keyThatStays]
      rw [if_pos hs]
      rfl
    refine ⟨arr.modify j fun e => { e with key := .agg us0.toArray, val := mkV vs.agg us }, ?_, ?_⟩
    · simp only [Instr.mapUpdate, Sem.run_bind, run_underlying hu, Result.andThen_ok, MapKept.run_getObj_map hb, hck, hf, hst, MapKept.run_setObj_map _ hb, mPutS_length, a1, if_true]
    · have := a6 v us hv
      simpa using this
end
end Go.Vm

noncomputable section
namespace Go.Vm
open Go

/-- What is known of a function: the shapes of its arguments, when it returns, and what. -/
structure Sum where
  shs : List Sh
  pre : List D → Option Prop
  res : List D → HV

/-- What a function is given that writes into a slice of its caller's: data, a function. -/
inductive MP where
  | dat (s : Sh) | fn (n : Nat)
/-- What is known of a function that writes into the slice that it is given first. -/
structure MSum where
  s : Sh
  pats : List MP
  pre : List D → List D → Option Prop
  res : List D → List D → HV
  out : List D → List D → List D

/-- What is known of a function that hands back a slice of its own (bare, or in a struct with nothing else). -/
structure OSum where
  shs : List Sh
  pre : List D → Option Prop
  s : Sh
  wrap : Bool
  out : List D → List D
/-- What is known of a function that writes into the variable whose address it is given last. -/
structure PSum where
  shs : List Sh
  t : Sh
  pre : List D → D → Option Prop
  res : List D → D → HV
  box : List D → D → D
/-- What a type is that is no data: a map, a slice of functions. (Or, with a million on the function's number, such a function.) -/
inductive MI where
  | map (ks vs : Sh) | vec | msum (M : MSum) | flag (all : Bool) | osum (S : OSum) | psum (S : PSum)

structure Ctx where
  tab : List (Nat × Sh)
  refs : List (Nat × Value)
  sums : List (Nat × Sum)
  funs : List (Nat × Func)
  keep : List (Nat × List Nat) := []
  maps : List (Nat × MI) := []

def tyOf (c : Ctx) (t : Nat) : Option (Sh × Option Value) := match lk c.tab t with
  | some s => some (s, none)
  | none => match lk c.refs t with
    | some z => some (.ref, some z)
    | none => none

structure Ef where
  hv : HV
  upd : List (Nat × VO)
  nx : Nat
  pre : Option Prop

def isNil : Value → Bool
  | .slice a l k => match a with
    | none => Nat.beq l 0 && Nat.beq k 0
    | some _ => false
  | _ => false
theorem isNil_eq {v : Value} (h : isNil v = true) : v = .slice none 0 0 := by
  unfold isNil at h
  split at h
  · split at h
    · simp only [Bool.and_eq_true] at h
      rw [Nat.eq_of_beq_eq_true h.1, Nat.eq_of_beq_eq_true h.2]
    · cases h
  · cases h

mutual
/-- A value as data of a shape. -/
def argD (hp : Hp) : Sh → HV → Option D
  | s, .dat s' d => match s'.beq s with
    | true => some d
    | false => none
  | .slice s, .own o s' => match s'.beq s with
    | true => match lk hp o with
      | some (.grow s2 xs) => match s2.beq s with
        | true => some (.L xs)
        | false => none
      | some (.froz s2 xs) => match s2.beq s with
        | true => some (.L xs)
        | false => none
      | _ => none
    | false => none
  | .slice _, .cst v => match isNil v with
    | true => some (.L [])
    | false => none
  | .struct ss, .st ss' fs => match Sh.beqs ss' ss with
    | true => match argDs hp ss fs with
      | some ds => some (.L ds)
      | none => none
    | false => none
  | _, _ => none
def argDs (hp : Hp) : List Sh → List HV → Option (List D)
  | [], [] => some []
  | s :: ss, h :: hs => match argD hp s h with
    | some d => match argDs hp ss hs with
      | some ds => some (d :: ds)
      | none => none
    | none => none
  | _, _ => none
end

/-- All of them data that lead nowhere else. -/
def HV.plain : HV → Bool
  | .dat s _ => s.flat
  | _ => false
def plains : List HV → Bool
  | [] => true
  | h :: hs => h.plain && plains hs
def HV.flatRes : HV → Bool
  | .dat s _ => s.flat
  | .tup vs => plains vs
  | _ => false
/-- Data, whatever they lead to. -/
def HV.isDat : HV → Bool
  | .dat _ _ => true
  | _ => false
def allIsDat : List HV → Bool
  | [] => true
  | h :: hs => h.isDat && allIsDat hs

def HV.isFn : HV → Bool
  | .tup _ | .und => false
  | _ => true
def allStorable : List HV → Bool
  | [] => true
  | h :: hs => h.isFn && allStorable hs

/-- The same, list by list (which reckons faster). -/
def argDL (hp : Hp) (ss : List Sh) : List HV → Option (List D) :=
  @List.rec Sh (fun _ => List HV → Option (List D)) (fun hs => match hs with
    | [] => some []
    | _ :: _ => none) (fun s _ r hs => match hs with
    | [] => none
    | h :: hs => match argD hp s h with
      | some d => match r hs with
        | some ds => some (d :: ds)
        | none => none
      | none => none) ss
theorem argDL_eq (hp : Hp) : ∀ (ss : List Sh) (hs : List HV), argDL hp ss hs = argDs hp ss hs
  | [], [] => by simp [argDL, argDs]
  | [], _ :: _ => by simp [argDL, argDs]
  | _ :: _, [] => by simp [argDL, argDs]
  | s :: ss, h :: hs => by
    have ih := argDL_eq hp ss hs
    show (match argD hp s h with
      | some d => match argDL hp ss hs with
        | some ds => some (d :: ds)
        | none => none
      | none => none) = _
    rw [ih]; simp only [argDs]
/-- A value, written out as far as its form; a list of them. -/
def fHVo (h : HV) (K : HV → Option Ef) : Option Ef := match h with
  | .dat s d => K (.dat s d)
  | .ptr o r p s => K (.ptr o r p s)
  | .own o s => K (.own o s)
  | .gptr s d => K (.gptr s d)
  | .sub o s a b => K (.sub o s a b)
  | .fn f cs => K (.fn f cs)
  | .st ss fs => K (.st ss fs)
  | .tup vs => K (.tup vs)
  | .cst v => K (.cst v)
  | .yld o => K (.yld o)
  | .mp o ks vs => K (.mp o ks vs)
  | .mit o => K (.mit o)
  | .und => K .und
theorem fHVo_eq (h : HV) (K : HV → Option Ef) : fHVo h K = K h := by cases h <;> rfl
def fHVsO (hs : List HV) : (List HV → Option Ef) → Option Ef :=
  @List.rec HV (fun _ => (List HV → Option Ef) → Option Ef) (fun K => K []) (fun h _ ih K => fHVo h fun h => ih fun hs => K (h :: hs)) hs
theorem fHVsO_eq : ∀ (hs : List HV) (K : List HV → Option Ef), fHVsO hs K = K hs
  | [], _ => rfl
  | h :: hs, K => by show fHVo h (fun h => fHVsO hs fun hs => K (h :: hs)) = _; rw [fHVo_eq, fHVsO_eq hs]

/-- The slices of one's own that a value holds. -/
def ownIds (h : HV) : List Nat := match h with
  | .own o _ => [o]
  | .st _ fs => @List.rec HV (fun _ => List Nat) [] (fun h _ ih => match h with
    | .own o _ => o :: ih
    | _ => ih) fs
  | _ => []
def ownIdsL (hs : List HV) : List Nat := @List.rec HV (fun _ => List Nat) [] (fun h _ ih => ownIds h ++ ih) hs
/-- No struct within a struct. -/
def shallow (h : HV) : Bool := match h with
  | .st _ fs => @List.rec HV (fun _ => Bool) true (fun h _ ih => match h with
    | .st _ _ => false
    | _ => ih) fs
  | _ => true
def shallowL (hs : List HV) : Bool := @List.rec HV (fun _ => Bool) true (fun h _ ih => shallow h && ih) hs
/-- What is given away is one's own no longer. -/
def frzU (hp : Hp) (l : List Nat) : List (Nat × VO) → Option (List (Nat × VO)) :=
  @List.rec Nat (fun _ => List (Nat × VO) → Option (List (Nat × VO))) (fun u => some u) (fun o _ ih u => match lk (u ++ hp) o with
    | some (.grow s xs) => ih ((o, .froz s xs) :: u)
    | some (.froz _ _) => ih u
    | _ => none) l
def mpArgs : List MP → List HV → Option (List D)
  | [], [] => some []
  | .dat s :: ps, .dat s' d :: hs => match s'.beq s with
    | true => match mpArgs ps hs with
      | some ds => some (d :: ds)
      | none => none
    | false => none
  | .fn n :: ps, .fn m [] :: hs => match Nat.beq n m && !(Nat.ble bndN m) with
    | true => mpArgs ps hs
    | false => none
  | _, _ => none
def mutCall (M : MSum) (nx : Nat) (hp : Hp) (hs : List HV) : Option Ef := match hs with
  | .own o s' :: rest => match s'.beq M.s, lk hp o, mpArgs M.pats rest with
    | true, some (.grow s2 xs), some ds => match s2.beq M.s && M.s.flat && (M.res xs ds).flatRes with
      | true => some ⟨M.res xs ds, [(o, .grow M.s (M.out xs ds))], nx, M.pre xs ds⟩
      | false => none
    | _, _, _ => none
  | _ => none
def owrap (b : Bool) (o : Nat) (s : Sh) : HV := match b with
  | true => .st [.slice s] [.own o s]
  | false => .own o s
def ownCall (S : OSum) (nx : Nat) (hp : Hp) (hs : List HV) : Option Ef := match argDL hp S.shs hs with
  | none => none
  | some ds => match shallowL hs with
    | true => match frzU hp (ownIdsL hs) [] with
      | some u => some ⟨owrap S.wrap nx S.s, (nx, .grow S.s (S.out ds)) :: u, nx + 1, S.pre ds⟩
      | none => none
    | false => none
def unsn (hs : List HV) : Option (List HV × HV) := @List.rec HV (fun _ => Option (List HV × HV)) none (fun h _ ih => match ih with
  | none => some ([], h)
  | some (l, z) => some (h :: l, z)) hs
def notIn (o : Nat) (l : List Nat) : Bool := @List.rec Nat (fun _ => Bool) true (fun k _ ih => !(Nat.beq k o) && ih) l
def ptrCall (S : PSum) (nx : Nat) (hp : Hp) (hs : List HV) : Option Ef := match unsn hs with
  | some (l, .ptr o r [] s') => match lk hp o with
    | some (.box s0 (.dat s1 d)) => match (s0.beq S.t && s1.beq S.t) && (r.beq S.t && s'.beq S.t) && (S.t.flat && (shallowL l && notIn o (ownIdsL l))) with
      | true => match argDL hp S.shs l with
        | some ds => match (S.res ds d).flatRes with
          | true => some ⟨S.res ds d, [(o, .box S.t (.dat S.t (S.box ds d)))], nx, S.pre ds d⟩
          | false => none
        | none => none
      | false => none
    | _ => none
  | _ => none
def doCall (c : Ctx) (nx : Nat) (hp : Hp) (f : Nat) (hs : List HV) : Option Ef :=
  match lk c.sums f with
  | none => match lk c.maps (f + 1000000) with
    | some (.msum M) => mutCall M nx hp hs
    | some (.osum S) => ownCall S nx hp hs
    | some (.psum S) => ptrCall S nx hp hs
    | _ => none
  | some S => match argDL hp S.shs hs with
    | none => none
    | some ds => match (S.res ds).flatRes || allIsDat hs with
      | true => some ⟨S.res ds, [], nx, S.pre ds⟩
      | false => match shallowL hs with
        | true => match frzU hp (ownIdsL hs) [] with
          | some u => some ⟨S.res ds, u, nx, S.pre ds⟩
          | none => none
        | false => none

/-- A bound of a slice expression. -/
def bnd (ρ : Operand → HV) : Option Operand → Int → Option Int
  | none, n => some n
  | some y, _ => match ρ y with
    | .dat (.int _) a => some a.int
    | _ => none
/-- The operands of a slice of functions, given in order. -/
def vecArgs (ρ : Operand → HV) : List (Nat × Operand) → Nat → Option (List HV)
  | [], _ => some []
  | (i, x) :: l, j => match Nat.beq i j && fits .ref (ρ x) with
    | true => match vecArgs ρ l (j + 1) with
      | some hs => some (ρ x :: hs)
      | none => none
    | false => none

def isSome (x : Option Operand) : Bool := match x with
  | some _ => true
  | none => false
def isConst (x : Operand) : Bool := match x with
  | .const _ => true
  | _ => false
/-- The elements from a on, up to b, are zero. -/
def clrL (s : Sh) (a b : Nat) (xs : List D) : List D := xs.take a ++ List.replicate (b - a) (D0 s) ++ xs.drop b
/-- A byte of a string. -/
def strAt (s : ByteArray) (i : Int) : Int := match s[i.toNat]? with
  | some b => (b.toNat : Int)
  | none => 0

/-- A string's bytes; the string of bytes. -/
def strL (s : ByteArray) : List D := s.data.toList.map fun b => .I (b.toNat : Int)
def strD (xs : List D) : ByteArray := ⟨(xs.map fun d => UInt8.ofNat d.int.toNat).toArray⟩

def isSub (h : HV) : Bool := match h with
  | .sub _ _ _ _ => true
  | _ => false
/-- A part of a slice of one's own is put behind its beginning, in place. -/
def appSub (s s' : Sh) (nx : Nat) (hp : Hp) (hx hy : HV) : Option Ef := match hx, hy with
  | .sub o s1 a b, .sub o' s2 a' b' => match lk hp o with
    | some (.grow s0 xs) => match (Nat.beq o o' && Nat.beq a 0) && ((s1.beq s && s2.beq s) && (s0.beq s && s'.beq s)) with
      | true => some ⟨.own (nx + 1) s, [(nx + 1, .grow s (xs.take b ++ (xs.drop a').take (b' - a'))), (nx, .dead), (o, .dead)], nx + 2, some (b ≤ xs.length ∧ a' ≤ b' ∧ b' ≤ xs.length ∧ xs.length ≤ 536870912)⟩
      | false => none
    | _ => none
  | _, _ => none
def vop0 (c : Ctx) (nx : Nat) (ρ : Operand → HV) (hp : Hp) (ty : Nat) : Op → Option Ef
  | .move x | .assign x => match x with
    | .const v => match isNil v with
      | true => match lk c.tab ty with
        | some (.slice s) => some ⟨.own nx s, [(nx, .grow s [])], nx + 1, none⟩
        | _ => none
      | false => some ⟨ρ (.const v), [], nx, none⟩
    | x => some ⟨ρ x, [], nx, none⟩
  | .alloc t => match lk c.tab t with
   | some (.slice s) => some ⟨.ptr (nx + 1) (.slice s) [] (.slice s), [(nx + 1, .box (.slice s) (.own nx s)), (nx, .grow s [])], nx + 2, none⟩
   | _ => match tyOf c t with
    | some (s, z) => some ⟨.ptr nx s [] s, [(nx, .box s (H0 z s))], nx + 1, none⟩
    | none => none
  | .box t x => match tyOf c t with
    | some (s, _) => match fits s (ρ x) with
      | true => some ⟨.ptr nx s [] s, [(nx, .box s (ρ x))], nx + 1, none⟩
      | false => none
    | none => none
  | .build t ps => match lk c.tab t with
    | some (.struct ss) => match putFields ρ ss (H0s ss) ps.toList with
      | some fs => some ⟨mkSt ss fs, [], nx, none⟩
      | none => none
    | some (.arr n s) => match putElems ρ s (List.replicate n (D0 s)) ps.toList with
      | some xs => some ⟨.dat (.arr n s) (.L xs), [], nx, none⟩
      | none => none
    | _ => none
  | .load t x => match ρ x with
    | .ptr o _ p s => match tyOf c t with
      | some (s', _) => match s'.beq s with
        | true => match lk hp o with
          | some (.box _ v) => match v.getP p s with
            | .und => none
            | h => some ⟨h, [], nx, none⟩
          | some (.grow s0 xs) => match (HV.dat (.arr xs.length s0) (.L xs)).getP p s with
            | .und => none
            | h => some ⟨h, [], nx, none⟩
          | some (.vec fs) => match p with
            | [.idx i] => match fs[i]? with
              | some h => match fits s h with
                | true => some ⟨h, [], nx, none⟩
                | false => none
              | none => none
            | _ => none
          | _ => none
        | false => none
      | none => none
    | .gptr s d => match lk c.tab t with
      | some s' => match s'.beq s with
        | true => some ⟨.dat s d, [], nx, none⟩
        | false => none
      | none => none
    | _ => none
  | .store t a x => match ρ a with
    | .ptr o _ p s => match tyOf c t with
      | some (s', _) => match s'.beq s && fits s (ρ x) with
        | true => match lk hp o with
          | some (.box sb v) => match v.putP p (ρ x) with
            | some h => some ⟨.und, [(o, .box sb h)], nx, none⟩
            | none => none
          | some (.grow s0 xs) => match p, ρ x with
            | .idx i :: p', .dat _ e => some ⟨.und, [(o, .grow s0 (xs.set i (D.puts s0 (xs.getD i .Z) p' e)))], nx, none⟩
            | _, _ => none
          | _ => none
        | false => none
      | none => none
    | _ => none
  | .binOp op t x y _ => match ρ x, ρ y with
    | .dat (.int k) a, .dat (.int k') b => match arith op k k' a.int b.int with
      | some (h, p) => some ⟨h, [], nx, p⟩
      | none => none
    | .dat .bool a, .dat .bool b => match lk c.tab t with
      | some .bool => match op with
        | .eql => some ⟨.dat .bool (.B (a.bool == b.bool)), [], nx, none⟩
        | .neq => some ⟨.dat .bool (.B (!(a.bool == b.bool))), [], nx, none⟩
        | _ => none
      | _ => none
    | .dat s a, .dat s' b => match lk c.tab t with
      | some s2 => match s.agg && s.beq s' && s.beq s2 && s.flat && Nat.ble s.depth 1000 with
        | true => match op with
          | .eql => some ⟨.dat .bool (.B (eqD s a b)), [], nx, none⟩
          | .neq => some ⟨.dat .bool (.B (!eqD s a b)), [], nx, none⟩
          | _ => none
        | false => none
      | none => none
    | _, _ => none
  | .unOp op _ x => match op, ρ x with
    | .not, .dat .bool d => some ⟨.dat .bool (.B (!d.bool)), [], nx, none⟩
    | .neg, .dat (.int k) d => some ⟨.dat (.int k) (.I (k.wrap (0 - d.int))), [], nx, none⟩
    | .xor, .dat (.int k) d => some ⟨.dat (.int k) (.I (bitsOp .xor k (if k.signed then -1 else k.max) d.int)), [], nx, none⟩
    | _, _ => none
  | .convert src dst x => match lk c.tab src, lk c.tab dst with
    | some (.int _), some (.int k) => match ρ x with
      | .dat (.int _) d => some ⟨.dat (.int k) (.I (k.wrap d.int)), [], nx, none⟩
      | _ => none
    | some .str, some (.slice (.int .u8)) => match ρ x with
      | .dat .str d => some ⟨.dat (.slice (.int .u8)) (.L (strL d.str)), [], nx, none⟩
      | _ => none
    | some (.slice (.int .u8)), some .str => match argD hp (.slice (.int .u8)) (ρ x) with
      | some e => some ⟨.dat .str (.S (strD e.list)), [], nx, some (e.list.length ≤ 9223372036854775807)⟩
      | none => none
    | _, _ => none
  | .makeFunc (.func f) first caps => match Nat.ble bndN f with
    | true => none
    | false => match first.toList, allStorable (caps.toList.map ρ) with
      | [], true => some ⟨.fn f (caps.toList.map ρ), [], nx, none⟩
      | [x], true => match caps.toList, allStorable ([x].map ρ) with
        | [], true => some ⟨.fn (bndF f) ([x].map ρ), [], nx, none⟩
        | _, _ => none
      | _, _ => none
  | .fieldAddr t x i => match ρ x, lk c.tab t with
    | .ptr o r p s, some s' => match s'.beq s with
      | true => match s.step (.fld i) with
        | some (s1, _) => some ⟨.ptr o r (p ++ [.fld i]) s1, [], nx, none⟩
        | none => none
      | false => none
    | .gptr s d, some s' => match s'.beq s with
      | true => match s.step (.fld i) with
        | some (s1, _) => some ⟨.gptr s1 (d.nth i), [], nx, none⟩
        | none => none
      | false => none
    | _, _ => none
  | .indexAddr t x ix => match ρ ix with
    | .dat (.int _) k => match lk c.tab t, ρ x with
      | some (.arr n s1), .ptr o r p s => match (Sh.arr n s1).beq s with
        | true => some ⟨.ptr o r (p ++ [.idx k.int.toNat]) s1, [], nx, some (0 ≤ k.int ∧ k.int < n)⟩
        | false => none
      | some (.arr n s1), .gptr s d => match (Sh.arr n s1).beq s with
        | true => some ⟨.gptr s1 (d.nth k.int.toNat), [], nx, some (0 ≤ k.int ∧ k.int < n)⟩
        | false => none
      | some (.slice s1), .own o s => match s1.beq s with
        | true => match lk hp o with
          | some (.grow s0 xs) => match s0.beq s1 with
            | true => some ⟨.ptr o (.arr xs.length s1) [.idx k.int.toNat] s1, [], nx, some (0 ≤ k.int ∧ k.int < xs.length)⟩
            | false => none
          | some (.froz s0 xs) => match s0.beq s1 with
            | true => some ⟨.gptr s1 (xs.getD k.int.toNat .Z), [], nx, some (0 ≤ k.int ∧ k.int < xs.length)⟩
            | false => none
          | _ => none
        | false => none
      | some (.slice s1), .dat s d => match s.beq (.slice s1) with
        | true => some ⟨.gptr s1 (d.list.getD k.int.toNat .Z), [], nx, some (0 ≤ k.int ∧ k.int < d.list.length)⟩
        | false => none
      | some (.slice s1), .sub o s a b => match s1.beq s with
        | true => match lk hp o with
          | some (.grow s0 xs) => match s0.beq s1 with
            | true => some ⟨.ptr o (.arr xs.length s1) [.idx (a + k.int.toNat)] s1, [], nx, some (0 ≤ k.int ∧ a + k.int.toNat < b)⟩
            | false => none
          | _ => none
        | false => none
      | none, .own o .ref => match lk c.maps t, lk hp o with
        | some .vec, some (.vec fs) => some ⟨.ptr o (.arr fs.length .ref) [.idx k.int.toNat] .ref, [], nx, some (0 ≤ k.int ∧ k.int < fs.length)⟩
        | _, _ => none
      | _, _ => none
    | _ => none
  | .field t x i => match ρ x, lk c.tab t with
    | .dat (.struct ss) d, some s' => match s'.beq (.struct ss) with
      | true => match ss[i]? with
        | some s1 => some ⟨.dat s1 (d.nth i), [], nx, none⟩
        | none => none
      | false => none
    | .st ss fs, some s' => match s'.beq (.struct ss) with
      | true => match fs[i]?, ss[i]? with
        | some f, some s1 => match fits s1 f with
          | true => some ⟨f, [], nx, none⟩
          | false => none
        | _, _ => none
      | false => none
    | _, _ => none
  | .index t x ix => match ρ x, ρ ix, lk c.tab t with
    | .dat (.arr n s) d, .dat (.int _) k, some s' => match s'.beq (.arr n s) with
      | true => some ⟨.dat s (d.nth k.int.toNat), [], nx, some (0 ≤ k.int ∧ k.int < n)⟩
      | false => none
    | .dat .str d, .dat (.int _) k, some .str => some ⟨.dat (.int .u8) (.I (strAt d.str k.int)), [], nx, some (0 ≤ k.int ∧ k.int < d.str.size)⟩
    | _, _, _ => none
  | .extract x i => match ρ x with
    | .tup vs => match vs[i]? with
      | some h => some ⟨h, [], nx, none⟩
      | none => none
    | _ => none
  | .buildSlice t n ps => match lk c.tab t with
    | some (.slice s) => match putElems ρ s (List.replicate n (D0 s)) ps.toList with
      | some xs => match Nat.ble (n * s.size) 16777216 && Nat.ble n 16777216 with
        | true => some ⟨.own nx s, [(nx, .grow s xs)], nx + 1, none⟩
        | false => none
      | none => none
    | none => match lk c.maps t with
      | some .vec => match vecArgs ρ ps.toList 0 with
        | some fs => match Nat.beq fs.length n && Nat.ble n 1000 with
          | true => some ⟨.own nx .ref, [(nx, .vec fs)], nx + 1, none⟩
          | false => none
        | none => none
      | _ => none
    | _ => none
  | .slice t x lo hi mx => match lk c.tab t with
    | some (.slice s1) => match mx with
      | none => match ρ x with
        | .dat (.slice s) d => match s.beq s1, bnd ρ lo 0, bnd ρ hi d.list.length with
          | true, some a, some b => some ⟨.dat (.slice s) (.L ((d.list.drop a.toNat).take (b - a).toNat)), [], nx, some (0 ≤ a ∧ a ≤ b ∧ b ≤ d.list.length)⟩
          | _, _, _ => none
        | .own o s => match lk hp o with
          | some (.froz s0 xs) => match s.beq s1 && s0.beq s1, bnd ρ lo 0, bnd ρ hi xs.length with
            | true, some a, some b => some ⟨.dat (.slice s1) (.L ((xs.drop a.toNat).take (b - a).toNat)), [], nx, some (0 ≤ a ∧ a ≤ b ∧ b ≤ xs.length)⟩
            | _, _, _ => none
          | some (.grow s0 xs) => match s.beq s1 && s0.beq s1, bnd ρ lo 0, bnd ρ hi xs.length with
            | true, some a, some b => match lk c.maps (t + 2000000) with
              | some (.flag all) => match all || isSome lo with
                | false => some ⟨.own nx s1, [(nx, .grow s1 (xs.take b.toNat)), (o, .dead)], nx + 1, some (0 ≤ a ∧ a ≤ b ∧ b ≤ xs.length)⟩
                | true => some ⟨.sub o s1 a.toNat b.toNat, [], nx, some (0 ≤ a ∧ a ≤ b ∧ b ≤ xs.length)⟩
              | _ => some ⟨.dat (.slice s1) (.L ((xs.drop a.toNat).take (b - a).toNat)), [(o, .froz s0 xs)], nx, some (0 ≤ a ∧ a ≤ b ∧ b ≤ xs.length)⟩
            | _, _, _ => none
          | _ => none
        | _ => none
      | some m => match lo, hi with
        | none, some h => match isConst h with
          | true => match ρ h, ρ m, argD hp (.slice s1) (ρ x) with
            | .dat (.int _) a, .dat (.int _) b, some _ => some ⟨.own nx s1, [(nx, .grow s1 [])], nx + 1, some (a.int = 0 ∧ b.int = 0)⟩
            | _, _, _ => none
          | false => match ρ h, ρ m, ρ x with
            | .dat (.int _) a, .dat (.int _) b, .own o s => match lk hp o with
              | some (.grow s0 xs) => match s.beq s1 && s0.beq s1 with
                | true => some ⟨.own nx s1, [(nx, .grow s1 (xs.take a.int.toNat)), (o, .dead)], nx + 1, some (0 ≤ a.int ∧ a.int ≤ b.int ∧ b.int ≤ xs.length)⟩
                | false => none
              | _ => none
            | _, _, _ => none
        | _, _ => none
    | some (.arr n s1) => match mx, lo, hi with
      | none, none, none => match ρ x with
        | .ptr o r p _ => match p with
          | [] => match lk hp o with
            | some (.box r0 v) => match v with
              | .dat s3 d => match r.beq (.arr n s1) && r0.beq (.arr n s1) && s3.beq (.arr n s1) && Nat.ble n 1000000 with
                | true => some ⟨.own o s1, [(o, .grow s1 ((List.range n).map d.nth))], nx, none⟩
                | false => none
              | _ => none
            | _ => none
          | _ => none
        | _ => none
      | _, _, _ => none
    | some .str => match mx, ρ x with
      | none, .dat .str d => match bnd ρ lo 0, bnd ρ hi d.str.size with
        | some a, some b => some ⟨.dat .str (.S (d.str.extract a.toNat b.toNat)), [], nx, some (0 ≤ a ∧ a ≤ b ∧ b ≤ d.str.size)⟩
        | _, _ => none
      | _, _ => none
    | _ => none
  | .makeMap t r => match r, lk c.maps t with
    | none, some (.map ks vs) => some ⟨.mp nx ks vs, [(nx, .map ks vs [])], nx + 1, none⟩
    | some y, some (.map ks vs) => match ρ y with
      | .dat (.int _) _ => some ⟨.mp nx ks vs, [(nx, .map ks vs [])], nx + 1, none⟩
      | _ => none
    | _, _ => none
  | .insert t m k v | .mapUpdate t m k v => match lk c.maps t, ρ m, ρ k, ρ v with
    | some (.map (.int q) vs), .mp o (.int q1) vs1, .dat (.int q2) kd, .dat s vd => match decide (q1 = q) && decide (q2 = q) && vs1.beq vs && s.beq vs, lk hp o with
      | true, some (.map (.int q3) vs3 es) => match decide (q3 = q) && vs3.beq vs with
        | true => some ⟨.und, [(o, .map (.int q) vs (mPut kd vd es))], nx, none⟩
        | false => none
      | _, _ => none
    | some (.map (.struct ss) vs), .mp o (.struct s1) vs1, .dat (.struct s2) kd, .dat s vd => match Sh.beqs s1 ss && Sh.beqs s2 ss && vs1.beq vs && s.beq vs && allInt ss, lk hp o with
      | true, some (.map (.struct s3) vs3 es) => match Sh.beqs s3 ss && vs3.beq vs with
        | true => some ⟨.und, [(o, .map (.struct ss) vs (mPutS ss kd vd es))], nx, none⟩
        | false => none
      | _, _ => none
    | _, _, _, _ => none
  | .lookup t m k ok => match lk c.maps t, ρ m, ρ k with
    | some (.map (.int q) vs), .mp o (.int q1) vs1, .dat (.int q2) kd => match decide (q1 = q) && decide (q2 = q) && vs1.beq vs, lk hp o with
      | true, some (.map (.int q3) vs3 es) => match decide (q3 = q) && vs3.beq vs with
        | true => match ok with
          | true => some ⟨.tup [.dat vs (mGet (D0 vs) kd.int es), .dat .bool (.B (mHas kd.int es))], [], nx, none⟩
          | false => some ⟨.dat vs (mGet (D0 vs) kd.int es), [], nx, none⟩
        | false => none
      | _, _ => none
    | some (.map (.struct ss) vs), .mp o (.struct s1) vs1, .dat (.struct s2) kd => match Sh.beqs s1 ss && Sh.beqs s2 ss && vs1.beq vs && allInt ss, lk hp o with
      | true, some (.map (.struct s3) vs3 es) => match Sh.beqs s3 ss && vs3.beq vs with
        | true => match ok with
          | true => some ⟨.tup [.dat vs (mGetS ss (D0 vs) kd es), .dat .bool (.B (mHasS ss kd es))], [], nx, none⟩
          | false => some ⟨.dat vs (mGetS ss (D0 vs) kd es), [], nx, none⟩
        | false => none
      | _, _ => none
    | _, _, _ => none
  | .range t m => match lk c.maps t, ρ m with
    | some (.map _ _), .mp o _ _ => match lk hp o with
      | some (.map _ _ es) => some ⟨.mit nx, [(nx, .iter o es.length es.length [])], nx + 1, none⟩
      | _ => none
    | _, _ => none
  | .entry x => match ρ x with
    | .mit o => match lk hp o with
      | some (.iter om _ last seen) => match lk hp om, seen.head? with
        | some (.map ks vs es), some i => some ⟨.tup [.dat ks (es.getD i (.Z, .Z)).1, .dat vs (es.getD i (.Z, .Z)).2], [], nx, some (last = es.length ∧ i < es.length)⟩
        | _, _ => none
      | _ => none
    | _ => none
  | .makeSlice t l k => match lk c.tab t, ρ l, ρ k with
    | some (.slice s), .dat (.int _) a, .dat (.int _) b => some ⟨.own nx s, [(nx, .grow s (List.replicate a.int.toNat (D0 s)))], nx + 1, some (0 ≤ a.int ∧ a.int ≤ b.int ∧ b.int ≤ 1073741824)⟩
    | _, _, _ => none
  | .nilCheck x => match ρ x with
    | .ptr o r p s => some ⟨.ptr o r p s, [], nx, none⟩
    | .gptr s d => some ⟨.gptr s d, [], nx, none⟩
    | .fn f cs => some ⟨.fn f cs, [], nx, none⟩
    | _ => none
  | .call { callee := .builtin .len, args, argTypes } => match args.toList, argTypes.toList with
    | [x], [t] => match ρ x, lk c.tab t with
      | .dat (.slice _) d, some (.slice _) => some ⟨.dat (.int .i64) (.I d.list.length), [], nx, none⟩
      | .dat .str d, some .str => some ⟨.dat (.int .i64) (.I d.str.size), [], nx, none⟩
      | .own o _, some (.slice _) => match lk hp o with
        | some (.grow _ xs) => some ⟨.dat (.int .i64) (.I xs.length), [], nx, none⟩
        | some (.froz _ xs) => some ⟨.dat (.int .i64) (.I xs.length), [], nx, none⟩
        | _ => none
      | .sub o _ a b, some (.slice _) => match lk hp o with
        | some (.grow _ _) => some ⟨.dat (.int .i64) (.I ((b - a : Nat) : Int)), [], nx, none⟩
        | _ => none
      | .own o _, none => match lk c.maps t, lk hp o with
        | some .vec, some (.vec fs) => some ⟨.dat (.int .i64) (.I fs.length), [], nx, some (fs.length ≤ 1000)⟩
        | _, _ => none
      | .mp o _ _, none => match lk c.maps t, lk hp o with
        | some (.map _ _), some (.map _ _ es) => some ⟨.dat (.int .i64) (.I es.length), [], nx, some (es.length ≤ 9223372036854775807)⟩
        | _, _ => none
      | _, some (.arr n _) => match Nat.ble n 1073741824 with
        | true => some ⟨.dat (.int .i64) (.I n), [], nx, none⟩
        | false => none
      | _, _ => none
    | _, _ => none
  | .call { callee := .builtin .max, args, .. } => match args.toList with
    | [x, y] => match ρ x, ρ y with
      | .dat (.int k) a, .dat (.int k') b => match decide (k = k') with
        | true => some ⟨.dat (.int k) (.I (if b.int > a.int then b.int else a.int)), [], nx, none⟩
        | false => none
      | _, _ => none
    | _ => none
  | .call { callee := .builtin .min, args, .. } => match args.toList with
    | [x, y] => match ρ x, ρ y with
      | .dat (.int k) a, .dat (.int k') b => match decide (k = k') with
        | true => some ⟨.dat (.int k) (.I (if b.int < a.int then b.int else a.int)), [], nx, none⟩
        | false => none
      | _, _ => none
    | _ => none
  | .call { callee := .builtin .clear, args, argTypes } => match args.toList, argTypes.toList with
    | [x], [t] => match ρ x, lk c.tab t with
      | .sub o s a b, some (.slice s1) => match lk hp o with
        | some (.grow s2 xs) => match s.beq s1 && s2.beq s1 with
          | true => some ⟨.tup [], [(o, .grow s1 (clrL s1 a b xs))], nx, none⟩
          | false => none
        | _ => none
      | _, _ => none
    | _, _ => none
  | .call { callee := .builtin .append, args, argTypes } => match args.toList, argTypes.toList with
    | [x, y], [t, t'] => match lk c.tab t, lk c.tab t' with
      | some (.slice s), some (.slice s') => match isSub (ρ y) with
        | true => appSub s s' nx hp (ρ x) (ρ y)
        | false => match s'.beq s, argD hp (.slice s) (ρ y) with
          | true, some e => match ρ x with
            | .own o s1 => match s1.beq s, lk hp o with
              | true, some (.grow s2 xs) => match s2.beq s with
                | true => some ⟨.own nx s, [(nx, .grow s (xs ++ e.list)), (o, .dead)], nx + 1, some (xs.length + e.list.length ≤ 1073741824)⟩
                | false => none
              | _, _ => none
            | .cst v => match isNil v with
              | true => some ⟨.own (nx + 1) s, [(nx + 1, .grow s e.list), (nx, .dead)], nx + 2, some (e.list.length ≤ 1073741824)⟩
              | false => none
            | _ => none
          | _, _ => none
      | _, _ => none
    | _, _ => none
  | .call { callee := .value f, args, .. } => match ρ f with
    | .fn n caps => match Nat.ble bndN n with
      | false => fHVsO (args.toList.map ρ ++ caps) fun hs => doCall c nx hp n hs
      | true => fHVsO (caps ++ args.toList.map ρ) fun hs => doCall c nx hp (n - bndN) hs
    | _ => none
  | _ => none
where
  /-- Elements, some of them put in. -/
  putElems (ρ : Operand → HV) (s : Sh) : List D → List (Nat × Operand) → Option (List D)
    | xs, [] => some xs
    | xs, (i, x) :: rest => match ρ x with
      | .dat s' d => match s'.beq s && Nat.blt i xs.length with
        | true => putElems ρ s (xs.set i d) rest
        | false => none
      | _ => none
end Go.Vm

noncomputable section
namespace Go.Vm
open Go

/-- What an operation's run comes to: a value, or a call that hands one back. -/
def OpWp (P : Program) (K : Value → World → Prop) : Result Next → Prop
  | .ok (.value v) w' => K v w'
  | .ok .skip w' => K undef w'
  | .ok (.enter f args) w' => Calls P f args w' (fun e w'' => ∃ v, e = .returned v ∧ K v w'')
  | .ok (.round l f tmps assign body) w' => ∀ n, RoundIn Fence.wide n P l f tmps assign body w' (fun e w'' => ∃ v, e = .returned v ∧ K v w'')
  | _ => False

/-- The fences that the evaluator speaks of: none, and none within a round. -/
inductive FOK : Fence → Prop
  | wide : FOK Fence.wide
  | round (l : Nat) : FOK (Fence.wide.inRound l)

theorem FOK.fn {F : Fence} (h : FOK F) (f : FuncId) : F.fn f := by cases h <;> trivial
theorem FOK.calls {F : Fence} (h : FOK F) {n : Nat} {P : Program} {f : FuncId} {args : Array Value} {w : World} {R : Ending → World → Prop} (hc : Calls P f args w R) : CallsIn F n P f args w R := by
  cases h with
  | wide => exact callsIn_wide.2 hc
  | round l => exact callsIn_wide.2 hc
theorem FOK.rounds {F : Fence} (h : FOK F) {n l : Nat} {P : Program} {f : FuncId} {tmps : Array Value} {x y : Code} {w : World} {R : Ending → World → Prop} (hc : RoundIn Fence.wide n P l f tmps x y w R) : RoundIn F n P l f tmps x y w R := by
  cases h with
  | wide => exact hc
  | round l => exact hc
theorem FOK.depth {F : Fence} (h : FOK F) {p : Prop} : F.depth.isSome = true → p := by
  cases h <;> intro h <;> cases h

theorem OpWp.mono {P : Program} {K K' : Value → World → Prop} (hk : ∀ v w, K v w → K' v w) {r : Result Next} (h : OpWp P K r) : OpWp P K' r := by
  cases r with
  | ok n w => cases n <;> simp only [OpWp] at h ⊢ <;> first | exact hk _ _ h | exact h.mono fun e w'' ⟨v, h1, h2⟩ => ⟨v, h1, hk _ _ h2⟩ | exact fun n => (h n).mono fun e w'' ⟨v, h1, h2⟩ => ⟨v, h1, hk _ _ h2⟩
  | halt x w => simp only [OpWp] at h

def ArgsRel (g : Ghost) : List Sh → List D → List Value → Prop
  | [], [], [] => True
  | s :: ss, d :: ds, v :: vs => HRel g (fun _ => none) (.dat s d) v ∧ ArgsRel g ss ds vs
  | _, _, _ => False

/-- A summary is right. -/
def SumOK (P : Program) (f : Nat) (S : Sum) : Prop := ∀ (g : Ghost) (w : World) (ds : List D) (vs : List Value), (∀ b x, g b = some x → w.heap[b]? = some x) → ArgsRel g S.shs ds vs → holds (S.pre ds) →
  OpWp P (fun v w' => ∃ g', g.le g' ∧ (∀ b x, g' b = some x → g b = some x ∨ w.heap.size ≤ b) ∧ (∀ b x, g' b = some x → w'.heap[b]? = some x) ∧ ExtAll w w' ∧ HRel g' (fun _ => none) (S.res ds) v)
    ((callFunc f vs.toArray).run P w)

def MArgs (g : Ghost) : List MP → List D → List Value → Prop
  | [], [], [] => True
  | .dat s :: ps, d :: ds, v :: vs => HRel g (fun _ => none) (.dat s d) v ∧ MArgs g ps ds vs
  | .fn n :: ps, ds, v :: vs => v = .func (.func n) #[] #[] ∧ MArgs g ps ds vs
  | _, _, _ => False
def loc1 (x : Place) : Loc := fun o => if o = 0 then some x else none
/-- A summary of a function that writes into a slice of its caller's is right. -/
def MutOK (P : Program) (f : Nat) (M : MSum) : Prop := ∀ (g : Ghost) (w : World) (x : Place) (xs ds : List D) (v0 : Value) (vs : List Value), (∀ b y, g b = some y → w.heap[b]? = some y) → (∀ b, x.blk = some b → g b = none) →
  ORel g (loc1 x) w 0 (.grow M.s xs) → HRel g (loc1 x) (.own 0 M.s) v0 → MArgs g M.pats ds vs → holds (M.pre xs ds) →
  OpWp P (fun v w' => w.heap.size ≤ w'.heap.size ∧ (∀ k, k < w.heap.size → x.blk ≠ some k → w'.heap[k]? = w.heap[k]?) ∧ (w'.os = w.os ∧ w'.output = w.output) ∧ (∃ G, ORel G (loc1 x) w' 0 (.grow M.s (M.out xs ds))) ∧ ∃ G, HRel G (fun _ => none) (M.res xs ds) v)
    ((callFunc f (v0 :: vs).toArray).run P w)

/-- A summary of a function that hands back a slice of its own is right. -/
def OutOK (P : Program) (f : Nat) (S : OSum) : Prop := ∀ (g : Ghost) (w : World) (ds : List D) (vs : List Value), (∀ b x, g b = some x → w.heap[b]? = some x) → ArgsRel g S.shs ds vs → holds (S.pre ds) →
  OpWp P (fun v w' => ∃ g' x, g.le g' ∧ (∀ b y, g' b = some y → g b = some y ∨ w.heap.size ≤ b) ∧ (∀ b y, g' b = some y → w'.heap[b]? = some y) ∧ ExtAll w w' ∧ (∀ b, x.blk = some b → w.heap.size ≤ b ∧ g' b = none) ∧
      ORel g' (loc1 x) w' 0 (.grow S.s (S.out ds)) ∧ HRel g' (loc1 x) (owrap S.wrap 0 S.s) v)
    ((callFunc f vs.toArray).run P w)

/-- A summary of a function that writes into the variable whose address it is given last is right. -/
def PtrOK (P : Program) (f : Nat) (S : PSum) : Prop := ∀ (g : Ghost) (w : World) (x : Place) (ds : List D) (d : D) (vs : List Value) (vp : Value), (∀ b y, g b = some y → w.heap[b]? = some y) → (∀ b, x.blk = some b → g b = none) →
  ArgsRel g S.shs ds vs → ORel g (loc1 x) w 0 (.box S.t (.dat S.t d)) → HRel g (loc1 x) (.ptr 0 S.t [] S.t) vp → holds (S.pre ds d) →
  OpWp P (fun v w' => w.heap.size ≤ w'.heap.size ∧ (∀ k, k < w.heap.size → x.blk ≠ some k → w'.heap[k]? = w.heap[k]?) ∧ (w'.os = w.os ∧ w'.output = w.output) ∧ (∃ G, ORel G (loc1 x) w' 0 (.box S.t (.dat S.t (S.box ds d)))) ∧ ∃ G, HRel G (fun _ => none) (S.res ds d) v)
    ((callFunc f (vs ++ [vp]).toArray).run P w)

/-- A map's type, a type of slices of functions. -/
def MapOK (P : Program) (t : TypeId) : MI → Prop
  | .map ks vs => ∃ k e, P.underlying t = some (.map k e) ∧ Lay P ks k ∧ Lay P vs e ∧ vs.data = true
  | .vec => ∃ e z, P.underlying t = some (.slice e) ∧ RefLay P e z
  | .msum M => ∃ f, t = f + 1000000 ∧ MutOK P f M
  | .flag _ => True
  | .osum S => ∃ f, t = f + 1000000 ∧ OutOK P f S
  | .psum S => ∃ f, t = f + 1000000 ∧ PtrOK P f S

structure CtxOK (P : Program) (c : Ctx) : Prop where
  tab : ∀ t s, lk c.tab t = some s → Lay P s t ∧ s.data = true
  refs : ∀ t z, lk c.refs t = some z → RefLay P t z
  sums : ∀ f S, lk c.sums f = some S → SumOK P f S
  maps : ∀ t m, lk c.maps t = some m → MapOK P t m
  funs : ∀ f F, lk c.funs f = some F → P.funcs[f]? = some F ∧ F.body.isSome = true ∧ F.name ≠ "runtime.NumGoroutine"

mutual
/-- Flat data lead nowhere: whatever the ghost. -/
theorem Rel.flat {g g' : Ghost} : ∀ {s : Sh} {d : D} {vs : List Value}, s.flat = true → Rel g s d vs → Rel g' s d vs
  | .int _, _, _, _, h => by simp only [Rel] at h ⊢; exact h
  | .bool, _, _, _, h => by simp only [Rel] at h ⊢; exact h
  | .str, _, _, _, h => by simp only [Rel] at h ⊢; exact h
  | .struct ss, _, _, hf, h => by simp only [Rel] at h ⊢; exact Rels.flat (by simpa [Sh.flat] using hf) h
  | .arr n s, _, _, hf, h => by
    simp only [Rel] at h ⊢
    exact ⟨h.1, fun j hj => Rel.flat (by simpa [Sh.flat] using hf) (h.2 j hj)⟩
  | .slice s, _, _, hf, _ => by simp [Sh.flat] at hf
  | .ref, _, _, hf, _ => by simp [Sh.flat] at hf
theorem Rels.flat {g g' : Ghost} : ∀ {ss : List Sh} {i : Nat} {d : D} {vs : List Value}, Sh.flats ss = true → Rels g ss i d vs → Rels g' ss i d vs
  | [], _, _, _, _, h => by simp only [Rels] at h ⊢; exact h
  | s :: ss, _, _, _, hf, h => by
    simp only [Sh.flats, Bool.and_eq_true] at hf
    simp only [Rels] at h ⊢
    exact ⟨h.1, Rel.flat hf.1 h.2.1, Rels.flat hf.2 h.2.2⟩
end

section
variable {P : Program} {c : Ctx} {g : Ghost} {loc : Loc} {w0 : Base} {w : World} {hp : Hp} {nx : Nat}

/-- Everything that lies in the world. -/
def whole (w : World) : Ghost := fun b => w.heap[b]?

/-- A slice of one's own is given away: it lies among what does not change from now on. -/
def frzG (g : Ghost) (loc : Loc) (w : World) (o : Nat) : Ghost := fun b => match loc o with
  | some x => if x.blk = some b then w.heap[b]? else g b
  | none => g b
theorem HeapRel.freeze (H : HeapRel w0 hp g loc w) {o : Nat} {s : Sh} {xs : List D} (ho : lk hp o = some (.grow s xs)) :
    HeapRel w0 ((o, .froz s xs) :: hp) (frzG g loc w o) loc w ∧ g.le (frzG g loc w o) ∧ ∀ b x y, loc o = some x → x.blk = some b → w.heap[b]? = some y → frzG g loc w o b = some y := by
  have hle : g.le (frzG g loc w o) := by
    intro b x hx
    unfold frzG
    split
    · split
      · exact H.ghost b x hx
      · exact hx
    · exact hx
  have hnew : ∀ b x, frzG g loc w o b = some x → g b = some x ∨ ∃ p, loc o = some p ∧ p.blk = some b ∧ w.heap[b]? = some x := by
    intro b x hx
    unfold frzG at hx
    split at hx
    · rename_i p hp'
      split at hx
      · rename_i hb; exact .inr ⟨p, hp', hb, hx⟩
      · exact .inl hx
    · exact .inl hx
  have hlive : (VO.grow s xs).live = true := rfl
  have hsub : ∀ o' vo, lk ((o, VO.froz s xs) :: hp) o' = some vo → vo.live = true → lk hp o' = some vo ∧ o' ≠ o := by
    intro o' vo h hl
    rw [lk_cons] at h
    split at h
    · simp only [Option.some.injEq] at h; subst h; cases hl
    · rename_i hne; exact ⟨h, fun e => hne e.symm⟩
  refine ⟨⟨?_, ?_, ?_, ?_, ?_, H.ext, H.size, ?_, H.still⟩, hle, ?_⟩
  · intro o' vo h
    rw [lk_cons] at h
    split at h
    · rename_i e
      simp only [Option.some.injEq] at h; subst h; subst e
      rcases H.obj o _ ho with ⟨k1, k2⟩ | ⟨b, cap, T, cs, k1, k2, k3, k4, k5⟩
      · exact .inl ⟨k1, k2⟩
      · refine .inr ⟨b, cap, T, cs, k1, ?_, k3, k4, fun j hj => (k5 j hj).mono hle⟩
        unfold frzG; rw [k1]; simp only [Place.blk, if_true]; exact k2
    · exact (H.obj o' vo h).mono hle (Loc.le_refl _) fun b x y _ _ hx => hx
  · intro o1 o2 v1 v2 b x1 x2 h1 h2 l1 l2 e1 e2 b1 b2
    exact H.inj o1 o2 v1 v2 b x1 x2 (hsub _ _ h1 l1).1 (hsub _ _ h2 l2).1 l1 l2 e1 e2 b1 b2
  · intro b x hx
    rcases hnew b x hx with h | ⟨_, _, _, h⟩
    · exact H.ghost b x h
    · exact h
  · intro o' vo b x h hl e hb
    obtain ⟨h1, h2⟩ := hsub _ _ h hl
    have h3 := H.sep o' vo b x h1 hl e hb
    cases hf : frzG g loc w o b with
    | none => rfl
    | some y =>
      rcases hnew b y hf with h4 | ⟨p, h4, h5, _⟩
      · rw [h3] at h4; cases h4
      · exact absurd (H.inj o' o vo _ b x p h1 ho hl hlive e h4 hb h5) h2
  · intro o' vo b x h hl e hb
    exact H.low o' vo b x (hsub _ _ h hl).1 hl e hb
  · intro b x hx hlt hwr
    rcases hnew b x hx with h | ⟨p, h4, h5, _⟩
    · exact H.old b x h hlt hwr
    · rcases H.low o _ b p ho hlive h4 h5 with h1 | h1
      · rw [hwr] at h1; cases h1
      · omega
  · intro b x y e hb hy
    unfold frzG
    rw [e]; simp only [hb, if_true]; exact hy

mutual
def ownP (p : Nat → Prop) : HV → Prop
  | .own o _ => p o
  | .st _ fs => ownPs p fs
  | _ => True
def ownPs (p : Nat → Prop) : List HV → Prop
  | [] => True
  | h :: hs => ownP p h ∧ ownPs p hs
end
mutual
theorem ownP_true : ∀ (h : HV), ownP (fun _ => True) h
  | .own _ _ => by simp only [ownP]
  | .st _ fs => by simp only [ownP]; exact ownPs_true fs
  | .dat .. => by simp only [ownP]
  | .ptr .. => by simp only [ownP]
  | .gptr .. => by simp only [ownP]
  | .sub .. => by simp only [ownP]
  | .fn .. => by simp only [ownP]
  | .tup .. => by simp only [ownP]
  | .cst .. => by simp only [ownP]
  | .yld .. => by simp only [ownP]
  | .mp .. => by simp only [ownP]
  | .mit .. => by simp only [ownP]
  | .und => by simp only [ownP]
theorem ownPs_true : ∀ (hs : List HV), ownPs (fun _ => True) hs
  | [] => by simp only [ownPs]
  | h :: hs => by simp only [ownPs]; exact ⟨ownP_true h, ownPs_true hs⟩
end

/-- A ghost that has all that one may reach. -/
structure Takes (hp : Hp) (g : Ghost) (loc : Loc) (w : World) (G : Ghost) (p : Nat → Prop) : Prop where
  gh : g.le G
  ob : ∀ o vo b x y, p o → lk hp o = some vo → vo.live = true → loc o = some x → x.blk = some b → w.heap[b]? = some y → G b = some y

theorem Takes.whole (H : HeapRel w0 hp g loc w) : Takes hp g loc w (whole w) (fun _ => True) := ⟨fun b x hx => H.ghost b x hx, fun _ _ _ _ _ _ _ _ _ _ h => h⟩

/-- A slice that was given away is data. -/
theorem froz_hc (H : HeapRel w0 hp g loc w) {o : Nat} {s : Sh} {xs : List D} (ho : lk hp o = some (.froz s xs)) {us : List Value} (hc : HC g loc (.own o s) us) : Rel g (.slice s) (.L xs) us := by
  simp only [HC] at hc
  simp only [Rel, D.list]
  rcases H.obj o _ ho with ⟨k1, rfl⟩ | ⟨b, cap, T, cs, k1, k2, k3, k4, k5⟩
  · rcases hc with ⟨_, a, rfl⟩ | ⟨b', cap', len', e1, rfl⟩
    · exact ⟨a, 0, rfl, by cases a <;> simp⟩
    · rw [k1] at e1; cases e1
  · rcases hc with ⟨e1, _, rfl⟩ | ⟨b', cap', len', e1, rfl⟩
    · rw [k1] at e1; cases e1
    · rw [k1] at e1
      simp only [Option.some.injEq, Place.at.injEq] at e1
      obtain ⟨rfl, rfl, rfl, _⟩ := e1
      refine ⟨some ⟨b, 0, none⟩, cap, rfl, k4, fun _ => ⟨rfl, cs, T, (0, 0), k2, by simp [k3], fun j hj => ?_⟩⟩
      simp only [Nat.zero_add]
      exact k5 j hj
theorem froz_hrel (H : HeapRel w0 hp g loc w) {o : Nat} {s : Sh} {xs : List D} (ho : lk hp o = some (.froz s xs)) {v : Value} (hc : HRel g loc (.own o s) v) : HRel g loc (.dat (.slice s) (.L xs)) v := by
  obtain ⟨us, h1, h2⟩ := hc
  exact HRel.dat_iff.2 ⟨us, froz_hc H ho h1, h2⟩
mutual
theorem argD_rel {G : Ghost} {p : Nat → Prop} (HT : Takes hp g loc w G p) (H : HeapRel w0 hp g loc w) (hv : HV) (s : Sh) (d : D) (us : List Value) (hin : ownP p hv) (ha : argD hp s hv = some d) (hc : HC g loc hv us) : Rel G s d us := by
  match hv, s, d, us, hin, ha, hc with
  | .dat s' e, s, d, us, hin, h, hc =>
    simp only [argD] at h
    split at h
    · rename_i hb
      simp only [Option.some.injEq] at h; subst h
      have := Sh.beq_eq hb; subst this
      simp only [HC] at hc
      exact hc.mono HT.gh
    · cases h
  | .own o s', s, d, us, hin, h, hc =>
    cases s <;> simp only [argD, reduceCtorEq] at h
    rename_i s
    split at h
    · rename_i hb
      split at h
      · rename_i s2 xs ho
        split at h
        · rename_i hb2
          simp only [Option.some.injEq] at h; subst h
          have := Sh.beq_eq hb; subst this
          have := Sh.beq_eq hb2; subst this
          simp only [HC] at hc
          simp only [Rel, D.list]
          rcases H.obj o _ ho with ⟨k1, rfl⟩ | ⟨b, cap, T, cs, k1, k2, k3, k4, k5⟩
          · rcases hc with ⟨_, a, rfl⟩ | ⟨b', cap', len', e1, rfl⟩
            · exact ⟨a, 0, rfl, by cases a <;> simp⟩
            · rw [k1] at e1; cases e1
          · rcases hc with ⟨e1, _, rfl⟩ | ⟨b', cap', len', e1, rfl⟩
            · rw [k1] at e1; cases e1
            · rw [k1] at e1
              simp only [Option.some.injEq, Place.at.injEq] at e1
              obtain ⟨rfl, rfl, rfl, _⟩ := e1
              refine ⟨some ⟨b, 0, none⟩, cap, rfl, k4, fun _ => ⟨rfl, cs, T, (0, 0), HT.ob o _ b _ _ (by simpa only [ownP] using hin) ho rfl k1 rfl k2, by simp [k3], fun j hj => ?_⟩⟩
              simp only [Nat.zero_add]
              exact (k5 j hj).mono HT.gh
        · cases h
      · rename_i s2 xs ho
        split at h
        · rename_i hb2
          simp only [Option.some.injEq] at h; subst h
          have := Sh.beq_eq hb; subst this
          have := Sh.beq_eq hb2; subst this
          have := froz_hc H ho hc
          exact this.mono HT.gh
        · cases h
      · cases h
    · cases h
  | .cst v, s, d, us, hin, h, hc =>
    simp only [HC] at hc
    obtain ⟨rfl, _⟩ := hc
    cases s <;> simp only [argD, reduceCtorEq] at h
    split at h
    · rename_i hn
      simp only [Option.some.injEq] at h
      subst h
      rw [isNil_eq hn]
      simp only [Rel, D.list]
      exact ⟨none, 0, rfl, by simp⟩
    · cases h
  | .st ss' fs, s, d, us, hin, h, hc =>
    cases s <;> simp only [argD, reduceCtorEq] at h
    rename_i ss
    split at h
    · rename_i hb
      split at h
      · rename_i ds hds
        simp only [Option.some.injEq] at h; subst h
        have := Sh.beqs_eq hb; subst this
        simp only [HC] at hc
        simp only [Rel]
        exact argDs_rel HT H fs ss' ds us 0 _ (by simpa only [ownP] using hin) hds hc fun j _ => by simp [D.nth]
      · cases h
    · cases h
  | .ptr .., s, d, us, _, h, _ => cases s <;> simp [argD] at h
  | .gptr .., s, d, us, _, h, _ => cases s <;> simp [argD] at h
  | .sub .., s, d, us, _, h, _ => cases s <;> simp [argD] at h
  | .fn .., s, d, us, _, h, _ => cases s <;> simp [argD] at h
  | .yld .., s, d, us, _, h, _ => cases s <;> simp [argD] at h
  | .mp .., s, d, us, _, h, _ => cases s <;> simp [argD] at h
  | .mit .., s, d, us, _, h, _ => cases s <;> simp [argD] at h
  | .tup .., s, d, us, _, h, _ => cases s <;> simp [argD] at h
  | .und, s, d, us, _, h, _ => cases s <;> simp [argD] at h
termination_by SizeOf.sizeOf hv
theorem argDs_rel {G : Ghost} {p : Nat → Prop} (HT : Takes hp g loc w G p) (H : HeapRel w0 hp g loc w) (fs : List HV) (ss : List Sh) (ds : List D) (us : List Value) (i : Nat) (d : D) (hin : ownPs p fs) (ha : argDs hp ss fs = some ds) (hc : HCs g loc ss fs us)
    (hd : ∀ j, j < ds.length → d.nth (i + j) = ds.getD j .Z) : Rels G ss i d us := by
  match fs, ss, ds, us, i, d, hin, ha, hc, hd with
  | [], [], _, _, _, _, _, _, hc, _ => simp only [HCs] at hc; simp only [Rels, hc]
  | f :: fs, s :: ss, ds, us, i, d, hin, h, hc, hd =>
    simp only [ownPs] at hin
    simp only [argDs] at h
    split at h
    · rename_i e he
      split at h
      · rename_i es hes
        simp only [Option.some.injEq] at h; subst h
        simp only [HCs] at hc
        simp only [Rels]
        have e0 : d.nth i = e := by simpa using hd 0 (by simp)
        refine ⟨hc.1, by rw [e0]; exact argD_rel HT H f s e _ hin.1 he hc.2.1, argDs_rel HT H fs ss es _ (i + 1) d hin.2 hes hc.2.2 fun j hj => ?_⟩
        have := hd (j + 1) (by simp; omega)
        simp only [List.getD_cons_succ] at this
        rw [← this]; congr 1; omega
      · cases h
    · cases h
  | [], _ :: _, _, _, _, _, _, h, _, _ => simp [argDs] at h
  | _ :: _, [], _, _, _, _, _, h, _, _ => simp [argDs] at h
termination_by SizeOf.sizeOf fs
end

theorem argD_fits {hp : Hp} : ∀ {h : HV} {s : Sh} {d : D}, argD hp s h = some d → fits s h = true ∨ (∃ fs, h = .st (match s with | .struct ss => ss | _ => []) fs ∧ ∃ ss, s = .struct ss)
  | .dat s' e, s, d, h => by
    simp only [argD] at h
    split at h
    · rename_i hb; exact .inl (by simp only [fits, hb])
    · cases h
  | .own o s', s, d, h => by cases s <;> simp [argD] at h; exact .inl (by simp [fits, Sh.size, Sh.agg])
  | .cst v, s, d, h => by cases s <;> simp [argD] at h; exact .inl (by simp [fits, Sh.size, Sh.agg])
  | .st ss' fs, s, d, h => by
    cases s <;> simp only [argD, reduceCtorEq] at h
    rename_i ss
    split at h
    · rename_i hb; have := Sh.beqs_eq hb; subst this; exact .inr ⟨fs, rfl, _, rfl⟩
    · cases h
  | .ptr .., s, d, h => by cases s <;> simp [argD] at h
  | .gptr .., s, d, h => by cases s <;> simp [argD] at h
  | .sub .., s, d, h => by cases s <;> simp [argD] at h
  | .fn .., s, d, h => by cases s <;> simp [argD] at h
  | .yld .., s, d, h => by cases s <;> simp [argD] at h
  | .mp .., s, d, h => by cases s <;> simp [argD] at h
  | .mit .., s, d, h => by cases s <;> simp [argD] at h
  | .tup .., s, d, h => by cases s <;> simp [argD] at h
  | .und, s, d, h => by cases s <;> simp [argD] at h

theorem argD_hrel {G : Ghost} {p : Nat → Prop} (HT : Takes hp g loc w G p) (H : HeapRel w0 hp g loc w) {h : HV} {s : Sh} {d : D} {v : Value} (hin : ownP p h) (ha : argD hp s h = some d) (hr : HRel g loc h v) : HRel G (fun _ => none) (.dat s d) v := by
  have key : ∀ us, HC g loc h us → h.agg = s.agg → v = mkV h.agg us → HRel G (fun _ => none) (.dat s d) v := by
    intro us h1 h2 h3
    exact HRel.dat_iff.2 ⟨us, argD_rel HT H h s d us hin ha h1, by rw [h3, h2]⟩
  rcases argD_fits ha with hf | ⟨fs, rfl, ss, rfl⟩
  · obtain ⟨us, h1, h2⟩ := HRel.of_fits hf hr
    exact key us h1 (fits_agg hf) h2
  · obtain ⟨us, h1, h2⟩ := hr
    exact key us h1 rfl h2

theorem argDs_args {G : Ghost} {p : Nat → Prop} (HT : Takes hp g loc w G p) (H : HeapRel w0 hp g loc w) : ∀ {hs : List HV} {ss : List Sh} {ds : List D} {vs : List Value}, ownPs p hs → argDs hp ss hs = some ds → (∀ (i : Nat) h v, hs[i]? = some h → vs[i]? = some v → HRel g loc h v) → hs.length = vs.length →
    ArgsRel G ss ds vs
  | [], [], ds, vs, _, h, _, hl => by
    simp only [argDs, Option.some.injEq] at h; subst h
    cases vs with
    | nil => simp only [ArgsRel]
    | cons => simp at hl
  | f :: fs, s :: ss, ds, vs, hin, h, hr, hl => by
    simp only [ownPs] at hin
    simp only [argDs] at h
    cases vs with
    | nil => simp at hl
    | cons v vs =>
      split at h
      · rename_i e he
        split at h
        · rename_i es hes
          simp only [Option.some.injEq] at h; subst h
          simp only [ArgsRel]
          refine ⟨argD_hrel HT H hin.1 he (hr 0 f v rfl rfl), argDs_args HT H hin.2 hes (fun i a b h1 h2 => hr (i + 1) a b (by simpa using h1) (by simpa using h2)) (by simpa using hl)⟩
        · cases h
      · cases h
  | [], _ :: _, _, _, _, h, _, _ => by simp [argDs] at h
  | _ :: _, [], _, _, _, h, _, _ => by simp [argDs] at h

theorem argDs_dat : ∀ {hs : List HV} {ss : List Sh} {ds : List D} {vs : List Value}, argDs hp ss hs = some ds → allIsDat hs = true → (∀ (i : Nat) h v, hs[i]? = some h → vs[i]? = some v → HRel g loc h v) → hs.length = vs.length →
    ArgsRel g ss ds vs
  | [], [], ds, vs, h, _, _, hl => by
    simp only [argDs, Option.some.injEq] at h; subst h
    cases vs with
    | nil => simp only [ArgsRel]
    | cons => simp at hl
  | f :: fs, s :: ss, ds, vs, h, hd, hr, hl => by
    simp only [argDs] at h
    simp only [allIsDat, Bool.and_eq_true] at hd
    cases vs with
    | nil => simp at hl
    | cons v vs =>
      split at h
      · rename_i e he
        split at h
        · rename_i es hes
          simp only [Option.some.injEq] at h; subst h
          simp only [ArgsRel]
          refine ⟨?_, argDs_dat hes hd.2 (fun i a b h1 h2 => hr (i + 1) a b (by simpa using h1) (by simpa using h2)) (by simpa using hl)⟩
          cases f <;> simp [HV.isDat] at hd
          rename_i s' d'
          simp only [argD] at he
          split at he
          · rename_i hb
            simp only [Option.some.injEq] at he; subst he
            have := Sh.beq_eq hb; subst this
            obtain ⟨us, h1, h2⟩ := HRel.dat_iff.1 (hr 0 _ v rfl rfl)
            exact HRel.dat_iff.2 ⟨us, h1, h2⟩
          · cases he
        · cases h
      · cases h
  | [], _ :: _, _, _, h, _, _, _ => by simp [argDs] at h
  | _ :: _, [], _, _, h, _, _, _ => by simp [argDs] at h

theorem plains_rel {g' : Ghost} {loc' : Loc} : ∀ {hs : List HV} {vs : List Value}, plains hs = true → HVs g loc hs vs → HVs g' loc' hs vs
  | [], [], _, _ => by simp only [HVs]
  | h :: hs, v :: vs, hp, hv => by
    simp only [plains, Bool.and_eq_true] at hp
    simp only [HVs] at hv ⊢
    obtain ⟨⟨us, h1, h2⟩, h3⟩ := hv
    refine ⟨⟨us, ?_, h2⟩, plains_rel hp.2 h3⟩
    cases h <;> simp [HV.plain] at hp
    simp only [HC] at h1 ⊢
    exact h1.flat hp.1
  | [], _ :: _, _, h => by simp [HVs] at h
  | _ :: _, [], _, h => by simp [HVs] at h

theorem flatRes_rel {g' : Ghost} {loc' : Loc} {h : HV} {v : Value} (hf : h.flatRes = true) (hr : HRel g loc h v) : HRel g' loc' h v := by
  cases h <;> simp [HV.flatRes] at hf
  case dat s d =>
    obtain ⟨us, h1, h2⟩ := HRel.dat_iff.1 hr
    exact HRel.dat_iff.2 ⟨us, h1.flat hf, h2⟩
  case tup l =>
    obtain ⟨vs, h1, h2⟩ := hr
    exact ⟨vs, plains_rel hf h1, h2⟩

theorem frzU_sound : ∀ {l : List Nat} {u u' : List (Nat × VO)} {g : Ghost}, frzU hp l u = some u' → HeapRel w0 (u ++ hp) g loc w →
    ∃ G, HeapRel w0 (u' ++ hp) G loc w ∧ g.le G ∧ ∀ o ∈ l, ∀ b x y, loc o = some x → x.blk = some b → w.heap[b]? = some y → G b = some y
  | [], u, u', g, h, H => by
    have h : some u = some u' := h
    simp only [Option.some.injEq] at h; subst h
    exact ⟨g, H, Ghost.le_refl g, fun o ho => by simp at ho⟩
  | o :: l, u, u', g, h, H => by
    have h : (match lk (u ++ hp) o with
      | some (.grow s xs) => frzU hp l ((o, .froz s xs) :: u)
      | some (.froz _ _) => frzU hp l u
      | _ => none) = some u' := h
    split at h
    · rename_i s xs ho
      obtain ⟨H1, h1, h2⟩ := H.freeze ho
      obtain ⟨G, h3, h4, h5⟩ := frzU_sound h (by simpa using H1)
      refine ⟨G, h3, Ghost.le_trans h1 h4, fun o' ho' b x y e hb hy => ?_⟩
      rcases List.mem_cons.1 ho' with rfl | ho'
      · exact h4 _ _ (h2 b x y e hb hy)
      · exact h5 o' ho' b x y e hb hy
    · rename_i s xs ho
      obtain ⟨G, h3, h4, h5⟩ := frzU_sound h H
      refine ⟨G, h3, h4, fun o' ho' b x y e hb hy => ?_⟩
      rcases List.mem_cons.1 ho' with rfl | ho'
      · refine h4 _ _ ?_
        rcases H.obj o' _ ho with ⟨k1, _⟩ | ⟨b', cap, T, cs, k1, k2, _⟩
        · rw [k1] at e; simp only [Option.some.injEq] at e; subst e; simp [Place.blk] at hb
        · rw [k1] at e; simp only [Option.some.injEq] at e; subst e
          simp only [Place.blk, Option.some.injEq] at hb
          subst hb
          have := H.ghost _ _ k2
          rw [this] at hy
          rw [k2]; exact hy
      · exact h5 o' ho' b x y e hb hy
    · cases h
theorem ownPs_of1 {q : Nat → Prop} : ∀ {fs : List HV}, (@List.rec HV (fun _ => Bool) true (fun h _ ih => match h with
    | .st _ _ => false
    | _ => ih) fs) = true → (∀ o ∈ (@List.rec HV (fun _ => List Nat) [] (fun h _ ih => match h with
    | .own o _ => o :: ih
    | _ => ih) fs), q o) → ownPs q fs
  | [], _, _ => by simp only [ownPs]
  | f :: fs, hs, hq => by
    simp only [ownPs]
    cases f
    case own o s => exact ⟨by simp only [ownP]; exact hq o (by simp), ownPs_of1 hs fun o' ho' => hq o' (by simp [ho'])⟩
    case st => cases hs
    all_goals exact ⟨by simp only [ownP], ownPs_of1 hs hq⟩
theorem ownP_of {q : Nat → Prop} {h : HV} (hs : shallow h = true) (hq : ∀ o ∈ ownIds h, q o) : ownP q h := by
  cases h
  case own o s => simp only [ownP]; exact hq o (by simp [ownIds])
  case st ss fs => simp only [ownP]; exact ownPs_of1 hs hq
  all_goals simp only [ownP]
theorem ownPs_of {q : Nat → Prop} : ∀ {hs : List HV}, shallowL hs = true → (∀ o ∈ ownIdsL hs, q o) → ownPs q hs
  | [], _, _ => by simp only [ownPs]
  | h :: hs, hsh, hq => by
    have h1 : (shallow h && shallowL hs) = true := hsh
    have h2 : ∀ o ∈ ownIds h ++ ownIdsL hs, q o := hq
    simp only [Bool.and_eq_true] at h1
    simp only [ownPs]
    exact ⟨ownP_of h1.1 fun o ho => h2 o (by simp [ho]), ownPs_of h1.2 fun o ho => h2 o (by simp [ho])⟩

theorem mpArgs_rel : ∀ {ps : List MP} {hs : List HV} {ds : List D} {vs : List Value}, mpArgs ps hs = some ds → (∀ (i : Nat) h v, hs[i]? = some h → vs[i]? = some v → HRel g loc h v) → hs.length = vs.length → MArgs g ps ds vs
  | [], [], ds, vs, h, _, hl => by
    simp only [mpArgs, Option.some.injEq] at h; subst h
    cases vs with
    | nil => simp only [MArgs]
    | cons => simp at hl
  | .dat s :: ps, f :: fs, ds, vs, h, hr, hl => by
    cases vs with
    | nil => simp at hl
    | cons v vs =>
      cases f <;> simp only [mpArgs, reduceCtorEq] at h
      split at h
      · rename_i hb
        have := Sh.beq_eq hb; subst this
        split at h
        · rename_i es hes
          simp only [Option.some.injEq] at h; subst h
          simp only [MArgs]
          refine ⟨?_, mpArgs_rel hes (fun i a b h1 h2 => hr (i + 1) a b (by simpa using h1) (by simpa using h2)) (by simpa using hl)⟩
          obtain ⟨us, h1, h2⟩ := HRel.dat_iff.1 (hr 0 _ v rfl rfl)
          exact HRel.dat_iff.2 ⟨us, h1, h2⟩
        · cases h
      · cases h
  | .fn n :: ps, f :: fs, ds, vs, h, hr, hl => by
    cases vs with
    | nil => simp at hl
    | cons v vs =>
      have key : ∃ m, f = .fn m [] ∧ (Nat.beq n m && !(Nat.ble bndN m)) = true ∧ mpArgs ps fs = some ds := by
        cases f with
        | fn m caps =>
          cases caps with
          | nil =>
            simp only [mpArgs] at h
            split at h
            · rename_i hb; exact ⟨m, rfl, hb, h⟩
            · cases h
          | cons => simp [mpArgs] at h
        | _ => simp [mpArgs] at h
      obtain ⟨m, rfl, hb, hk⟩ := key
      simp only [Bool.and_eq_true, Bool.not_eq_true'] at hb
      have := Nat.eq_of_beq_eq_true hb.1; subst this
      simp only [MArgs]
      refine ⟨?_, mpArgs_rel hk (fun i a b h1 h2 => hr (i + 1) a b (by simpa using h1) (by simpa using h2)) (by simpa using hl)⟩
      obtain ⟨us, h1, h2⟩ := hr 0 _ v rfl rfl
      simp only [HC] at h1
      obtain ⟨cs, h3, rfl⟩ := h1
      cases cs with
      | nil => simpa only [HV.agg, mkV, List.headD_cons, fnV_f hb.2] using h2
      | cons => simp [HVs] at h3
  | [], _ :: _, _, _, h, _, _ => by simp [mpArgs] at h
  | .dat _ :: _, [], _, _, h, _, _ => by simp [mpArgs] at h
  | .fn _ :: _, [], _, _, h, _, _ => by simp [mpArgs] at h
theorem mutCall_sound (H : HeapRel w0 hp g loc w) {f : Nat} {M : MSum} (hok : MutOK P f M) {hs : List HV} {vs : List Value} {ef : Ef} (h : mutCall M nx hp hs = some ef) (hpre : holds ef.pre)
    (hr : ∀ (i : Nat) h v, hs[i]? = some h → vs[i]? = some v → HRel g loc h v) (hl : hs.length = vs.length) :
    OpWp P (fun v w' => ∃ g' loc', g.le g' ∧ loc.le loc' ∧ (∀ o, o < nx ∨ ef.nx ≤ o → loc' o = loc o) ∧ HeapRel w0 (ef.upd ++ hp) g' loc' w' ∧ HRel g' loc' ef.hv v) ((callFunc f vs.toArray).run P w) := by
  unfold mutCall at h
  split at h
  · rename_i o s' rest
    split at h
    · rename_i s2 xs ds hb ho hds
      split at h
      · rename_i hb2
        simp only [Option.some.injEq] at h; subst h
        simp only [Bool.and_eq_true] at hb2
        have := Sh.beq_eq hb; subst this
        have := Sh.beq_eq hb2.1.1; subst this
        cases vs with
        | nil => simp at hl
        | cons v0 vs =>
          have h0 := hr 0 _ v0 rfl rfl
          have hO := H.obj o _ ho
          obtain ⟨x, hx⟩ : ∃ x, loc o = some x := by
            rcases hO with ⟨k1, _⟩ | ⟨b, cap, T, cs, k1, _⟩
            · exact ⟨_, k1⟩
            · exact ⟨_, k1⟩
          have l0 : loc1 x 0 = some x := by simp [loc1]
          have hO' : ORel g (loc1 x) w 0 (.grow M.s xs) := by
            rcases hO with ⟨k1, k2⟩ | ⟨b, cap, T, cs, k1, k2⟩
            · rw [hx] at k1
              exact .inl ⟨by rw [l0]; exact k1, k2⟩
            · rw [hx] at k1
              exact .inr ⟨b, cap, T, cs, by rw [l0]; exact k1, k2⟩
          have h0' : HRel g (loc1 x) (.own 0 M.s) v0 := by
            obtain ⟨us, h1, h2⟩ := h0
            refine ⟨us, ?_, h2⟩
            simp only [HC] at h1 ⊢
            rcases h1 with ⟨k1, k2⟩ | ⟨b, cap, len, k1, k2⟩
            · rw [hx] at k1
              exact .inl ⟨by rw [l0]; exact k1, k2⟩
            · rw [hx] at k1
              exact .inr ⟨b, cap, len, by rw [l0]; exact k1, k2⟩
          have := hok g w x xs ds v0 vs H.ghost (fun b hb => H.sep o _ b x ho rfl hx hb) hO' h0' (mpArgs_rel hds (fun i a b h1 h2 => hr (i + 1) a b (by simpa using h1) (by simpa using h2)) (by simpa using hl)) hpre
          refine this.mono fun v w' ⟨k1, k2, k3, ⟨G1, k4⟩, G2, k5⟩ => ⟨g, loc, Ghost.le_refl g, Loc.le_refl loc, fun _ _ => rfl, ?_, flatRes_rel hb2.2 k5⟩
          have hend : ORel g loc w' o (.grow M.s (M.out xs ds)) := by
            rcases k4 with ⟨m1, m2⟩ | ⟨b, cap, T, cs, m1, m2, m3, m4, m5⟩
            · rw [l0] at m1
              exact .inl ⟨by rw [hx]; exact m1, m2⟩
            · rw [l0] at m1
              exact .inr ⟨b, cap, T, cs, by rw [hx]; exact m1, m2, m3, m4, fun j hj => (m5 j hj).flat hb2.1.2⟩
          exact H.mut ho rfl hx k1 k2 k3 hend
      · cases h
    · cases h
  · cases h
/-- An object that a call has made. -/
theorem HeapRel.fresh {g' : Ghost} {w' : World} (H : HeapRel w0 hp g loc w) (hn : loc nx = none) (he : ExtAll w w') (hg : g.le g') (hnew : ∀ b y, g' b = some y → g b = some y ∨ w.heap.size ≤ b) (hgw : ∀ b y, g' b = some y → w'.heap[b]? = some y)
    (x : Place) (vo : VO) (hx : ∀ b, x.blk = some b → w.heap.size ≤ b ∧ g' b = none) (hO : ORel g' (loc.upd nx x) w' nx vo) : HeapRel w0 ((nx, vo) :: hp) g' (loc.upd nx x) w' := by
  have H1 := H.grown he hg hnew hgw
  have hlow : ∀ o vo' b y, lk hp o = some vo' → vo'.live = true → loc o = some y → y.blk = some b → b < w.heap.size := fun o vo' b y h l e hb => (H.obj o vo' h).blk_lt l e hb
  refine ⟨?_, ?_, hgw, ?_, ?_, H1.ext, H1.size, H1.old, H1.still⟩
  · intro o vo' h
    rw [lk_cons] at h
    split at h
    · rename_i e; subst e
      simp only [Option.some.injEq] at h; subst h
      exact hO
    · exact (H1.obj o vo' h).mono (Ghost.le_refl _) (Loc.le_upd hn) fun _ _ _ _ _ hy => hy
  · intro o o' vo1 vo2 b y y' h1 h2 l1 l2 e1 e2 b1 b2
    rw [lk_cons] at h1 h2
    by_cases a1 : nx = o <;> by_cases a2 : nx = o'
    · rw [← a1, ← a2]
    · subst a1
      rw [Loc.upd_same] at e1
      simp only [Option.some.injEq] at e1; subst e1
      rw [if_neg a2] at h2
      rw [Loc.upd_other (fun e => a2 e.symm)] at e2
      have := hlow o' vo2 b y' h2 l2 e2 b2
      have := (hx b b1).1
      omega
    · subst a2
      rw [Loc.upd_same] at e2
      simp only [Option.some.injEq] at e2; subst e2
      rw [if_neg a1] at h1
      rw [Loc.upd_other (fun e => a1 e.symm)] at e1
      have := hlow o vo1 b y h1 l1 e1 b1
      have := (hx b b2).1
      omega
    · rw [if_neg a1] at h1
      rw [if_neg a2] at h2
      rw [Loc.upd_other (fun e => a1 e.symm)] at e1
      rw [Loc.upd_other (fun e => a2 e.symm)] at e2
      exact H.inj o o' vo1 vo2 b y y' h1 h2 l1 l2 e1 e2 b1 b2
  · intro o vo' b y h1 h2 h3 h4
    rw [lk_cons] at h1
    by_cases a : nx = o
    · subst a
      rw [Loc.upd_same] at h3
      simp only [Option.some.injEq] at h3; subst h3
      exact (hx b h4).2
    · rw [if_neg a] at h1
      rw [Loc.upd_other (fun e => a e.symm)] at h3
      exact H1.sep o vo' b y h1 h2 h3 h4
  · intro o vo' b y h1 h2 h3 h4
    rw [lk_cons] at h1
    by_cases a : nx = o
    · subst a
      rw [Loc.upd_same] at h3
      simp only [Option.some.injEq] at h3; subst h3
      have := H.size
      have := (hx b h4).1
      right; omega
    · rw [if_neg a] at h1
      rw [Loc.upd_other (fun e => a e.symm)] at h3
      exact H.low o vo' b y h1 h2 h3 h4
theorem own_move {x : Place} {g : Ghost} {s : Sh} {vs : List Value} (h : HC g (loc1 x) (.own 0 s) vs) : HC g (loc.upd nx x) (.own nx s) vs := by
  simp only [HC, loc1, if_true, Loc.upd_same] at h ⊢
  exact h
theorem owrap_move {x : Place} {g : Ghost} {b : Bool} {s : Sh} {v : Value} (h : HRel g (loc1 x) (owrap b 0 s) v) : HRel g (loc.upd nx x) (owrap b nx s) v := by
  cases b
  · obtain ⟨us, h1, h2⟩ := h
    exact ⟨us, own_move h1, h2⟩
  · obtain ⟨us, h1, h2⟩ := h
    refine ⟨us, ?_, h2⟩
    have h3 : HCs g (loc1 x) [.slice s] [.own 0 s] us := by
      have h1 : HC g (loc1 x) (.st [.slice s] [.own 0 s]) us := h1
      simpa only [HC] using h1
    have h4 : HCs g (loc.upd nx x) [.slice s] [.own nx s] us := by
      unfold HCs at h3 ⊢
      exact ⟨h3.1, own_move h3.2.1, by have := h3.2.2; unfold HCs at this ⊢; exact this⟩
    show HC g (loc.upd nx x) (.st [.slice s] [.own nx s]) us
    simpa only [HC] using h4
theorem ownCall_sound (H : HeapRel w0 hp g loc w) (hn : loc nx = none) {f : Nat} {S : OSum} (hok : OutOK P f S) {hs : List HV} {vs : List Value} {ef : Ef} (h : ownCall S nx hp hs = some ef) (hpre : holds ef.pre)
    (hr : ∀ (i : Nat) h v, hs[i]? = some h → vs[i]? = some v → HRel g loc h v) (hl : hs.length = vs.length) :
    OpWp P (fun v w' => ∃ g' loc', g.le g' ∧ loc.le loc' ∧ (∀ o, o < nx ∨ ef.nx ≤ o → loc' o = loc o) ∧ HeapRel w0 (ef.upd ++ hp) g' loc' w' ∧ HRel g' loc' ef.hv v) ((callFunc f vs.toArray).run P w) := by
  unfold ownCall at h
  rw [argDL_eq] at h
  split at h
  · cases h
  · rename_i ds hds
    split at h
    · rename_i hsh
      split at h
      · rename_i u hu
        simp only [Option.some.injEq] at h; subst h
        simp only at hpre
        obtain ⟨G, HG, hgG, hob⟩ := frzU_sound hu (by simpa using H)
        have HT : Takes hp g loc w G (fun o => o ∈ ownIdsL hs) := ⟨hgG, fun o vo b x y hin _ _ e hb hy => hob o hin b x y e hb hy⟩
        have := hok G w ds vs HG.ghost (argDs_args HT H (ownPs_of hsh fun o ho => ho) hds hr hl) hpre
        refine this.mono fun v w' ⟨g', x, h1, h2, h3, h4, h5, h6, h7⟩ => ⟨g', loc.upd nx x, Ghost.le_trans hgG h1, Loc.le_upd hn, ?_, ?_, ?_⟩
        · intro o ho
          refine Loc.upd_other ?_
          rintro rfl
          rcases ho with ho | ho
          · exact Nat.lt_irrefl _ ho
          · exact Nat.not_succ_le_self _ ho
        · refine HG.fresh hn h4 h1 h2 h3 x _ h5 ?_
          rcases h6 with ⟨k1, k2⟩ | ⟨b, cap, T, cs, k1, k2⟩
          · refine .inl ⟨?_, k2⟩
            rw [Loc.upd_same]; simpa [loc1] using k1
          · refine .inr ⟨b, cap, T, cs, ?_, k2⟩
            rw [Loc.upd_same]; simpa [loc1] using k1
        · exact owrap_move h7
      · cases h
    · cases h
theorem unsn_eq : ∀ {hs l : List HV} {z : HV}, unsn hs = some (l, z) → hs = l ++ [z]
  | [], l, z, h => by cases h
  | h :: t, l, z, e => by
    have e' : (match unsn t with
      | none => some ([], h)
      | some (l, z) => some (h :: l, z)) = some (l, z) := e
    split at e'
    · rename_i hu
      simp only [Option.some.injEq, Prod.mk.injEq] at e'
      obtain ⟨rfl, rfl⟩ := e'
      cases t with
      | nil => rfl
      | cons a t =>
        have hu' : (match unsn t with
          | none => some ([], a)
          | some (l, z) => some (a :: l, z)) = none := hu
        split at hu' <;> cases hu'
    · rename_i l' z' hu
      simp only [Option.some.injEq, Prod.mk.injEq] at e'
      obtain ⟨rfl, rfl⟩ := e'
      rw [unsn_eq hu]; rfl
theorem notIn_ne {o : Nat} : ∀ {l : List Nat}, notIn o l = true → ∀ k ∈ l, k ≠ o
  | [], _, k, hk => by cases hk
  | a :: l, h, k, hk => by
    have h' : (!(Nat.beq a o) && notIn o l) = true := h
    simp only [Bool.and_eq_true, Bool.not_eq_true'] at h'
    rcases List.mem_cons.1 hk with rfl | hk
    · rintro rfl
      have := h'.1
      rw [show Nat.beq k k = true from Nat.beq_refl k] at this
      cases this
    · exact notIn_ne h'.2 k hk
theorem ptrCall_nx {S : PSum} {hs : List HV} {ef : Ef} (h : ptrCall S nx hp hs = some ef) : ef.nx = nx := by
  unfold ptrCall at h
  (repeat' split at h) <;> first | (simp only [Option.some.injEq] at h; subst h; rfl) | cases h
theorem ptrCall_sound (H : HeapRel w0 hp g loc w) {f : Nat} {S : PSum} (hok : PtrOK P f S) {hs : List HV} {vs : List Value} {ef : Ef} (h : ptrCall S nx hp hs = some ef) (hpre : holds ef.pre)
    (hr : ∀ (i : Nat) h v, hs[i]? = some h → vs[i]? = some v → HRel g loc h v) (hl : hs.length = vs.length) :
    OpWp P (fun v w' => ∃ g' loc', g.le g' ∧ loc.le loc' ∧ (∀ o, o < nx ∨ ef.nx ≤ o → loc' o = loc o) ∧ HeapRel w0 (ef.upd ++ hp) g' loc' w' ∧ HRel g' loc' ef.hv v) ((callFunc f vs.toArray).run P w) := by
  unfold ptrCall at h
  split at h
  · rename_i l o r s' hu
    split at h
    · rename_i s0 s1 d ho
      split at h
      · rename_i hb
        split at h
        · rename_i ds hds
          split at h
          · rename_i hfl
            simp only [Option.some.injEq] at h; subst h
            simp only [Bool.and_eq_true] at hb
            obtain ⟨⟨⟨e1, e2⟩, e3, e4⟩, e5, e6, e7⟩ := hb
            have := Sh.beq_eq e1; subst this
            have := Sh.beq_eq e2; subst this
            have := Sh.beq_eq e3; subst this
            have := Sh.beq_eq e4; subst this
            have := unsn_eq hu; subst this
            obtain ⟨us, vp, rfl⟩ : ∃ us vp, vs = us ++ [vp] := by
              rcases List.eq_nil_or_concat vs with rfl | ⟨us, vp, h⟩
              · simp at hl
              · exact ⟨us, vp, by simpa using h⟩
            have hlen : l.length = us.length := by simpa using hl
            have hrp := hr l.length (.ptr o S.t [] S.t) vp (by simp) (by simp [hlen])
            obtain ⟨ps, hc, hv⟩ := hrp
            simp only [HC] at hc
            obtain ⟨b, cap, len, off, hx, h2, h3, h4⟩ := hc
            have l0 : loc1 (.at b cap len S.t) 0 = some (.at b cap len S.t) := by simp [loc1]
            have hsep := H.sep o _ b _ ho rfl hx rfl
            let G : Ghost := fun k => if k = b then none else w.heap[k]?
            have Gle : g.le G := by
              intro k y hk
              show (if k = b then none else w.heap[k]?) = some y
              rw [if_neg (by rintro rfl; rw [hsep] at hk; cases hk)]
              exact H.ghost k y hk
            have HT : Takes hp g loc w G (fun k => k ≠ o) := by
              refine ⟨Gle, ?_⟩
              intro k vo b' x y hk j1 j2 j3 j4 j5
              show (if b' = b then none else w.heap[b']?) = some y
              rw [if_neg (by
                rintro rfl
                exact hk (H.inj k o vo _ b' x _ j1 ho j2 rfl j3 hx j4 rfl))]
              exact j5
            have hG : ∀ k y, G k = some y → w.heap[k]? = some y := by
              intro k y hk
              have hk : (if k = b then none else w.heap[k]?) = some y := hk
              split at hk
              · cases hk
              · exact hk
            have hsepG : ∀ k, (Place.at b cap len S.t).blk = some k → G k = none := by
              intro k hk
              simp only [Place.blk, Option.some.injEq] at hk
              subst hk
              show (if b = b then none else w.heap[b]?) = none
              rw [if_pos rfl]
            have hO : ORel G (loc1 (.at b cap len S.t)) w 0 (.box S.t (.dat S.t d)) := by
              obtain ⟨b', cap', len', T, ws, k1, k2, k3, k4, k5⟩ := H.obj o _ ho
              rw [hx] at k1
              simp only [Option.some.injEq, Place.at.injEq] at k1
              obtain ⟨rfl, rfl, rfl, _⟩ := k1
              refine ⟨b, cap, len, T, ws, l0, k2, k3, k4, ?_⟩
              simp only [HC] at k5 ⊢
              exact k5.flat e5
            have hP : HRel G (loc1 (.at b cap len S.t)) (.ptr 0 S.t [] S.t) vp := by
              refine ⟨ps, ?_, hv⟩
              simp only [HC]
              exact ⟨b, cap, len, off, l0, h2, h3, h4⟩
            rw [argDL_eq] at hds
            have := hok G w _ ds d us vp hG hsepG (argDs_args HT H (ownPs_of e6 (notIn_ne e7)) hds (fun i a c h1 h2 => by
              have hi : i < l.length := by
                rcases Nat.lt_or_ge i l.length with h | h
                · exact h
                · rw [List.getElem?_eq_none h] at h1; cases h1
              exact hr i a c (by rw [List.getElem?_append_left hi]; exact h1) (by rw [List.getElem?_append_left (hlen ▸ hi)]; exact h2)) hlen) hO hP hpre
            refine this.mono fun v w' ⟨k1, k2, k3, ⟨G1, k4⟩, G2, k5⟩ => ⟨g, loc, Ghost.le_refl g, Loc.le_refl loc, fun _ _ => rfl, ?_, flatRes_rel hfl k5⟩
            have hend : ORel g loc w' o (.box S.t (.dat S.t (S.box ds d))) := by
              obtain ⟨b', cap', len', T, ws, m1, m2, m3, m4, m5⟩ := k4
              rw [l0] at m1
              simp only [Option.some.injEq, Place.at.injEq] at m1
              obtain ⟨rfl, rfl, rfl, _⟩ := m1
              refine ⟨b, cap, len, T, ws, hx, m2, m3, m4, ?_⟩
              simp only [HC] at m5 ⊢
              exact m5.flat e5
            exact H.mut ho rfl hx k1 k2 k3 hend
          · cases h
        · cases h
      · cases h
    · cases h
  · cases h
/-- A call of a function whose summary is right. -/
theorem doCall_sound (hC : CtxOK P c) (H : HeapRel w0 hp g loc w) (hn : loc nx = none) {f : Nat} {hs : List HV} {vs : List Value} {ef : Ef} (h : doCall c nx hp f hs = some ef) (hpre : holds ef.pre)
    (hr : ∀ (i : Nat) h v, hs[i]? = some h → vs[i]? = some v → HRel g loc h v) (hl : hs.length = vs.length) :
    OpWp P (fun v w' => ∃ g' loc', g.le g' ∧ loc.le loc' ∧ (∀ o, o < nx ∨ ef.nx ≤ o → loc' o = loc o) ∧ HeapRel w0 (ef.upd ++ hp) g' loc' w' ∧ HRel g' loc' ef.hv v) ((callFunc f vs.toArray).run P w) := by
  unfold doCall at h
  split at h
  · split at h
    · rename_i M hM
      obtain ⟨f', hf', hok⟩ := hC.maps _ _ hM
      have : f = f' := Nat.add_right_cancel hf'
      subst this
      exact mutCall_sound H hok h hpre hr hl
    · rename_i S hS
      obtain ⟨f', hf', hok⟩ := hC.maps _ _ hS
      have : f = f' := Nat.add_right_cancel hf'
      subst this
      exact ownCall_sound H hn hok h hpre hr hl
    · rename_i S hS
      obtain ⟨f', hf', hok⟩ := hC.maps _ _ hS
      have : f = f' := Nat.add_right_cancel hf'
      subst this
      exact ptrCall_sound H hok h hpre hr hl
    · cases h
  · rename_i S hS
    rw [argDL_eq] at h
    split at h
    · cases h
    · rename_i ds hds
      split at h
      · rename_i hfl
        simp only [Option.some.injEq] at h; subst h
        simp only at hpre
        have hok := hC.sums f S hS
        simp only [Bool.or_eq_true] at hfl
        rcases hfl with hfl | hfl
        · have := hok (whole w) w ds vs (fun b x h => h) (argDs_args (Takes.whole H) H (ownPs_true hs) hds hr hl) hpre
          refine this.mono fun v w' ⟨g', h1, h2, h3, h4, h5⟩ => ⟨g, loc, Ghost.le_refl g, Loc.le_refl loc, fun _ _ => rfl, ?_, flatRes_rel hfl h5⟩
          simp only [List.nil_append]
          exact H.grown h4 (Ghost.le_refl g) (fun b x hx => .inl hx) (fun b x hx => h4.get (H.ghost b x hx))
        · have := hok g w ds vs H.ghost (argDs_dat hds hfl hr hl) hpre
          refine this.mono fun v w' ⟨g', h1, h2, h3, h4, h5⟩ => ⟨g', loc, h1, Loc.le_refl loc, fun _ _ => rfl, ?_, ?_⟩
          · simp only [List.nil_append]
            exact H.grown h4 h1 h2 h3
          · exact h5.mono (Ghost.le_refl _) (fun o x hx => by cases hx)
      · split at h
        · rename_i hsh
          split at h
          · rename_i u hu
            simp only [Option.some.injEq] at h; subst h
            simp only at hpre
            have hok := hC.sums f S hS
            obtain ⟨G, HG, hgG, hob⟩ := frzU_sound hu (by simpa using H)
            have HT : Takes hp g loc w G (fun o => o ∈ ownIdsL hs) := ⟨hgG, fun o vo b x y hin _ _ e hb hy => hob o hin b x y e hb hy⟩
            have := hok G w ds vs HG.ghost (argDs_args HT H (ownPs_of hsh fun o ho => ho) hds hr hl) hpre
            refine this.mono fun v w' ⟨g', h1, h2, h3, h4, h5⟩ => ⟨g', loc, Ghost.le_trans hgG h1, Loc.le_refl loc, fun _ _ => rfl, HG.grown h4 h1 h2 h3, ?_⟩
            exact h5.mono (Ghost.le_refl _) (fun o x hx => by cases hx)
          · cases h
        · cases h
end
end Go.Vm

noncomputable section
namespace Go.Vm
open Go

section
variable {P : Program} {c : Ctx} {g : Ghost} {loc : Loc} {w0 : Base} {w : World} {hp : Hp} {nx : Nat}

theorem tyOf_plain (hC : CtxOK P c) {t : Nat} {s : Sh} {z : Option Value} (h : tyOf c t = some (s, z)) : Plain P t s.size s.agg := by
  unfold tyOf at h
  split at h
  · rename_i s' hs
    simp only [Option.some.injEq, Prod.mk.injEq] at h
    obtain ⟨rfl, _⟩ := h
    exact (hC.tab _ _ hs).1.plain
  · split at h
    · rename_i z' hz
      simp only [Option.some.injEq, Prod.mk.injEq] at h
      obtain ⟨rfl, _⟩ := h
      exact (hC.refs _ _ hz).plain
    · cases h

/-- The zero value of a type. -/
theorem tyOf_zero (hC : CtxOK P c) {t : Nat} {s : Sh} {z : Option Value} (h : tyOf c t = some (s, z)) :
    ∃ zv, (∀ w, (zeroValue t).run P w = .ok zv w) ∧ zv.cells.size = s.size ∧ HC g loc (H0 z s) zv.cells.toList ∧ fits s (H0 z s) = true := by
  unfold tyOf at h
  split at h
  · rename_i s' hs
    simp only [Option.some.injEq, Prod.mk.injEq] at h
    obtain ⟨rfl, rfl⟩ := h
    obtain ⟨hl, hd⟩ := hC.tab _ _ hs
    obtain ⟨i, h1, _, h3, _⟩ := hl.ty
    have hz := HC.zero g loc none s' hd
    have e : (mkV s'.agg (zcells s')).cells.toList = zcells s' := by
      have h4 := Rel.zero g s' hd
      have h5 : HRel g loc (.dat s' (D0 s')) (mkV s'.agg (zcells s')) := HRel.dat_iff.2 ⟨_, h4, rfl⟩
      cases hs2 : s'.agg with
      | true => simp [mkV, Value.cells]
      | false =>
        have h6 := h4.length
        have h7 := Sh.size_one hs2
        have h8 := h4.one
        match hz2 : zcells s', h6, h8 with
        | [v], _, h8 =>
          have := h8 v (by simp)
          cases v <;> simp_all [mkV, Value.cells, Value.oneCell']
        | [], h6, _ => simp at h6; omega
        | _ :: _ :: _, h6, _ => simp at h6; omega
    refine ⟨_, run_zero ⟨i, h1, h3⟩, ?_, by rw [e]; exact hz.1, hz.2⟩
    rw [← Array.length_toList, e]
    exact (Rel.zero g s' hd).length
  · split at h
    · rename_i z' hz
      simp only [Option.some.injEq, Prod.mk.injEq] at h
      obtain ⟨rfl, rfl⟩ := h
      obtain ⟨⟨i, h1, h2, h3⟩, h4, _⟩ := hC.refs _ _ hz
      have e : z'.cells = #[z'] := by cases z' <;> simp_all [Value.cells, Value.oneCell']
      refine ⟨_, run_zero ⟨i, h1, h3⟩, by rw [e]; rfl, ?_, by simp [H0, fits, Sh.size, Sh.agg]⟩
      rw [e]
      simp only [H0, HC]
      exact ⟨trivial, h4⟩
    · cases h

theorem run_eqGuard_other (op : BinOp) (t : TypeId) (x y : Operand) (a b : Value) (h1 : ∀ cs, a ≠ .agg cs) (h2 : a ≠ .nilIface) : (eqGuard op t x y a b).run P w = .ok () w := by
  cases op <;> first | rfl | (cases a <;> first | exact absurd rfl (h1 _) | exact absurd rfl h2 | rfl | (cases b <;> rfl))

theorem unary_sound {k : IntKind} {d : D} :
    ((Op.unary .neg (.int k d.int)).run P w = .ok (.int k (k.wrap (0 - d.int))) w) ∧
    ((Op.unary .xor (.int k d.int)).run P w = .ok (.int k (bitsOp .xor k (if k.signed then -1 else k.max) d.int)) w) := by
  constructor
  · simp only [Op.unary, Op.intArith]; rfl
  · simp only [Op.unary, Op.intBits]; rfl

theorem HVs_get : ∀ {hs : List HV} {vs : List Value} {i : Nat} {h : HV}, HVs g loc hs vs → hs[i]? = some h → ∃ v, vs[i]? = some v ∧ HRel g loc h v
  | [], [], i, h, _, hi => by simp at hi
  | h0 :: hs, v0 :: vs, 0, h, hv, hi => by
    simp only [HVs] at hv
    simp at hi; subst hi
    refine ⟨v0, rfl, ?_⟩
    obtain ⟨⟨us, h1, h2⟩, _⟩ := hv
    cases h0 with
    | tup l => simp only [HC] at h1
    | und => exact trivial
    | _ => exact ⟨us, h1, h2⟩
  | h0 :: hs, v0 :: vs, i + 1, h, hv, hi => by
    simp only [HVs] at hv
    obtain ⟨v, h1, h2⟩ := HVs_get hv.2 (i := i) (h := h) (by simpa using hi)
    exact ⟨v, by simpa using h1, h2⟩
  | [], _ :: _, _, _, h, _ => by simp [HVs] at h
  | _ :: _, [], _, _, h, _ => by simp [HVs] at h

theorem HVs_map {ρ : Operand → HV} {ρv : Operand → Value} (hρ : ∀ x, HRel g loc (ρ x) (ρv x)) : ∀ (xs : List Operand), allStorable (xs.map ρ) = true → HVs g loc (xs.map ρ) (xs.map ρv)
  | [], _ => by simp only [List.map_nil, HVs]
  | x :: xs, h => by
    simp only [List.map_cons, allStorable, Bool.and_eq_true] at h
    simp only [List.map_cons, HVs]
    refine ⟨?_, HVs_map hρ xs h.2⟩
    have := hρ x
    generalize ρ x = hx at *
    cases hx with
    | tup l => simp [HV.isFn] at h
    | und => simp [HV.isFn] at h
    | _ => exact this

theorem navs_snoc : ∀ {p : List PS} {r s s1 : Sh} {q : PS} {off o1 : Nat}, r.navs p = some (s, off) → s.step q = some (s1, o1) → r.navs (p ++ [q]) = some (s1, off + o1)
  | [], r, s, s1, q, off, o1, h, h1 => by
    simp only [Sh.navs, Option.some.injEq, Prod.mk.injEq] at h
    obtain ⟨rfl, rfl⟩ := h
    simp [Sh.navs, h1]
  | p :: ps, r, s, s1, q, off, o1, h, h1 => by
    simp only [Sh.navs] at h
    split at h
    · rename_i s2 o2 h2
      split at h
      · rename_i s3 o3 h3
        simp only [Option.some.injEq, Prod.mk.injEq] at h
        obtain ⟨rfl, rfl⟩ := h
        simp only [List.cons_append, Sh.navs, h2, navs_snoc h3 h1]
        simp [Nat.add_assoc]
      · cases h
    · cases h

theorem inPath_snoc : ∀ {p : List PS} {r s : Sh} {q : PS} {off : Nat}, r.navs p = some (s, off) → r.inPath p → s.inStep q → r.inPath (p ++ [q])
  | [], r, s, q, off, h, _, h1 => by
    simp only [Sh.navs, Option.some.injEq, Prod.mk.injEq] at h
    obtain ⟨rfl, rfl⟩ := h
    simp only [List.nil_append, Sh.inPath]
    exact ⟨h1, fun _ _ _ => trivial⟩
  | p :: ps, r, s, q, off, h, hi, h1 => by
    simp only [Sh.navs] at h
    split at h
    · rename_i s2 o2 h2
      split at h
      · rename_i s3 o3 h3
        simp only [Option.some.injEq, Prod.mk.injEq] at h
        obtain ⟨rfl, rfl⟩ := h
        simp only [List.cons_append, Sh.inPath] at hi ⊢
        refine ⟨hi.1, fun s' o hs => ?_⟩
        have := hi.2 s' o hs
        rw [h2] at hs
        simp only [Option.some.injEq, Prod.mk.injEq] at hs
        obtain ⟨rfl, rfl⟩ := hs
        exact inPath_snoc h3 this h1
      · cases h
    · cases h

theorem HRel.ptr {o : Nat} {r s : Sh} {p : List PS} {v : Value} (h : HRel g loc (.ptr o r p s) v) : ∃ b cap len off, loc o = some (.at b cap len r) ∧ r.navs p = some (s, off) ∧ r.inPath p ∧ v = .pointer (some ⟨b, off, none⟩) := by
  obtain ⟨us, h1, rfl⟩ := h
  simp only [HC] at h1
  obtain ⟨b, cap, len, off, h2, h3, h4, rfl⟩ := h1
  exact ⟨b, cap, len, off, h2, h3, h4, rfl⟩
theorem HRel.ptr_mk {o : Nat} {r s : Sh} {p : List PS} {b cap len off : Nat} (h1 : loc o = some (.at b cap len r)) (h2 : r.navs p = some (s, off)) (h3 : r.inPath p) : HRel g loc (.ptr o r p s) (.pointer (some ⟨b, off, none⟩)) := by
  show ∃ us, HC g loc (.ptr o r p s) us ∧ _ = mkV _ us
  exact ⟨[.pointer (some ⟨b, off, none⟩)], by simp only [HC]; exact ⟨b, cap, len, off, h1, h2, h3, rfl⟩, rfl⟩

theorem HRel.gptr {s : Sh} {d : D} {v : Value} (h : HRel g loc (.gptr s d) v) : ∃ b off cs T fr, g b = some (.cells cs T fr) ∧ off + s.size ≤ cs.size ∧ Rel g s d (chunk cs.toList off s.size) ∧ v = .pointer (some ⟨b, off, none⟩) := by
  obtain ⟨us, h1, rfl⟩ := h
  simp only [HC] at h1
  obtain ⟨b, off, cs, T, fr, h2, h3, h4, rfl⟩ := h1
  exact ⟨b, off, cs, T, fr, h2, h3, h4, rfl⟩
theorem HRel.gptr_mk {s : Sh} {d : D} {b off : Nat} {cs : Array Value} {T : TypeId} {fr : Nat × Nat} (h1 : g b = some (.cells cs T fr)) (h2 : off + s.size ≤ cs.size) (h3 : Rel g s d (chunk cs.toList off s.size)) :
    HRel g loc (.gptr s d) (.pointer (some ⟨b, off, none⟩)) := by
  show ∃ us, HC g loc (.gptr s d) us ∧ _ = mkV _ us
  exact ⟨[.pointer (some ⟨b, off, none⟩)], by simp only [HC]; exact ⟨b, off, cs, T, fr, h1, h2, h3, rfl⟩, rfl⟩

/-- A field's address. -/
theorem run_fieldAt {t i b off : Nat} {ss : List Sh} {s1 : Sh} {o1 : Nat} (hl : Lay P (.struct ss) t) (hs : (Sh.struct ss).step (.fld i) = some (s1, o1)) (w : World) :
    (Instr.fieldAt t (.pointer (some ⟨b, off, none⟩)) i).run P w = .ok (.pointer (some ⟨b, off + o1, none⟩)) w := by
  simp only [Lay] at hl
  obtain ⟨_, ⟨fs, hu, hls⟩, _⟩ := hl
  simp only [Sh.step] at hs
  split at hs
  · rename_i s2 hs2
    simp only [Option.some.injEq, Prod.mk.injEq] at hs
    obtain ⟨rfl, rfl⟩ := hs
    obtain ⟨f, hf, hoff, hpos, hlf⟩ := lays_get P hls hs2
    have hf' : fs[i]? = some f := by simpa using hf
    simp only [Instr.fieldAt, Sem.run_bind, run_underlying hu, Result.andThen_ok, hf', Instr.sureAddr, Sem.run_pure, fieldPlace, run_size hlf.plain]
    rw [if_neg (by omega)]
    simp only [Sem.run_pure, Result.andThen_ok, addr_add, hoff, Nat.zero_add]
  · cases hs

theorem step_fld {s s1 : Sh} {i o1 : Nat} (h : s.step (.fld i) = some (s1, o1)) : ∃ ss, s = .struct ss ∧ ss[i]? = some s1 ∧ o1 = Sh.sizes (ss.take i) := by
  cases s <;> simp [Sh.step] at h
  rename_i ss
  split at h
  · rename_i s2 hs2
    simp only [Option.some.injEq, Prod.mk.injEq] at h
    exact ⟨ss, rfl, by rw [hs2, h.1], h.2.symm⟩
  · cases h

/-- An element's address in an array. -/
theorem run_indexAt_arr {t n b off : Nat} {s1 : Sh} {k : IntKind} {i : Int} (hl : Lay P (.arr n s1) t) (h0 : 0 ≤ i) (h1 : i < n) (w : World) :
    (Instr.indexAt t (.pointer (some ⟨b, off, none⟩)) (.int k i)).run P w = .ok (.pointer (some ⟨b, off + i.toNat * s1.size, none⟩)) w := by
  simp only [Lay] at hl
  obtain ⟨_, ⟨e, hu, hle⟩, _⟩ := hl
  simp [Instr.indexAt, asIntOf, run_underlying hu, Instr.sureAddr, h0, h1, run_size hle.plain, addr_add]

/-- An element's address in a slice. -/
theorem run_indexAt_slice {t n cap b off : Nat} {s1 : Sh} {k : IntKind} {i : Int} (hl : Lay P (.slice s1) t) (h0 : 0 ≤ i) (h1 : i < n) (w : World) :
    (Instr.indexAt t (.slice (some ⟨b, off, none⟩) n cap) (.int k i)).run P w = .ok (.pointer (some ⟨b, off + i.toNat * s1.size, none⟩)) w := by
  simp only [Lay] at hl
  obtain ⟨_, e, hu, hle⟩ := hl
  simp [Instr.indexAt, asIntOf, run_underlying hu, h0, h1, run_size hle.plain, addr_add]
end
end Go.Vm
