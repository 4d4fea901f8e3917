/- The evaluator is right: code and functions. -/
import Derived.Test.YtjcfnooplhoheaaVmZ
import Derived.ScopeJumps
noncomputable section
namespace Go.Vm
open Go
open Classical
set_option linter.unusedSimpArgs false

section
variable {P : Program} {c : Ctx} {w0 : Base}

/-- Where code may end. -/
def Ends (B : MB) (w0 : Base) (N : Nat) (K : Exit → Env → Hp → Nat → Prop) (g : Ghost) (loc : Loc) : Exit → Act → World → Prop := fun x a w =>
  ∃ e hp nx g' loc', K x e hp nx ∧ g.le g' ∧ loc.le loc' ∧ FRel B g' loc' N e [] a ∧ HeapN w0 hp nx g' loc' w

theorem Ends.mono {B : MB} {N : Nat} {K : Exit → Env → Hp → Nat → Prop} {g g' : Ghost} {loc loc' : Loc} (hg : g.le g') (hl : loc.le loc') {x : Exit} {a : Act} {w : World} (h : Ends B w0 N K g' loc' x a w) : Ends B w0 N K g loc x a w := by
  obtain ⟨e, hp, nx, g2, l2, h1, h2, h3, h4⟩ := h
  exact ⟨e, hp, nx, g2, l2, h1, Ghost.le_trans hg h2, Loc.le_trans hl h3, h4⟩

def resOne (tmps : Array Value) : ResultVar → Sem Value
  | .tmp t => pure (tmps.getD t undef)
  | .cell x t => asAddr (tmps.getD x undef) >>= fun ad => loadVar t ad

theorem results_eq (fn : Func) (tmps : Array Value) : results fn tmps = (fn.results.mapM (resOne tmps)) >>= fun vs => pure (if h : vs.size = 1 then vs[0] else .tuple vs) := by
  unfold results
  congr 2

/-- The results, one by one. -/
theorem resList_sound (hC : CtxOK P c) {B : MB} {g : Ghost} {loc : Loc} {N : Nat} {e : Env} {hp : Hp} {nx : Nat} {a : Act} {w : World} (F : FRel B g loc N e [] a) (H : HeapN w0 hp nx g loc w) : ∀ (rs : List ResultVar) (K : List HV → Prop), resList c e hp rs K →
    ∃ hs vs, K hs ∧ HVs g loc hs vs ∧ (rs.mapM (resOne a.tmps)).run P w = .ok vs w
  | [], K, h => ⟨[], [], h, by simp only [HVs], by simp⟩
  | r :: rs, K, h => by
    have one : oneRes c e hp r = .und ∨ ∃ v, ((resOne a.tmps) r).run P w = .ok v w ∧ HRel g loc (oneRes c e hp r) v := by
      cases r with
      | tmp t =>
        simp only [oneRes, resOne]
        cases hl : lk e t with
        | none => exact .inl rfl
        | some h => exact .inr ⟨_, by simp, F.base t h rfl hl⟩
      | cell x t =>
        simp only [oneRes]
        cases hv : vop c 0 (rho e [] []) hp 0 (.load t (.tmp x)) with
        | none => exact .inl rfl
        | some ef =>
          right
          have hkh : KeyHolds a.tmps [] := fun x hx => by simp at hx
          obtain ⟨v, h1, _, _, h2⟩ := s_loadV hC (fun x => rho_rel F hkh x) H.1 hv
          refine ⟨v, ?_, h2⟩
          simp only [Instr.loadAt, Instr.sureAddr, Act.eval] at h1
          show Sem.run P (asAddr (a.tmps.getD x undef) >>= fun ad => loadVar t ad) w = _
          rw [← h1]
          cases hx : a.tmps.getD x undef with
          | pointer o => 
            cases o with
            | some ad => rfl
            | none => rw [hx] at h1; simp [stuck] at h1
          | _ => rw [hx] at h1; simp [stuck] at h1
    have mk : oneRes c e hp r ≠ .und → (∀ l, oneRes c e hp r ≠ .tup l) → resList c e hp rs (fun l => K (oneRes c e hp r :: l)) → ∃ hs vs, K hs ∧ HVs g loc hs vs ∧ ((r :: rs).mapM (resOne a.tmps)).run P w = .ok vs w := by
      intro hu ht h'
      obtain ⟨v, h1, h2⟩ := one.resolve_left hu
      obtain ⟨hs, vs, k1, k2, k3⟩ := resList_sound hC F H rs _ h'
      refine ⟨_ :: hs, v :: vs, k1, ?_, ?_⟩
      · simp only [HVs]
        refine ⟨?_, k2⟩
        generalize oneRes c e hp r = hv at hu ht h2
        cases hv with
        | und => exact absurd rfl hu
        | tup l => exact absurd rfl (ht l)
        | _ => exact h2
      · rw [List.mapM_cons, Sem.run_bind]
        erw [h1]
        simp only [Result.andThen_ok, Sem.run_bind, k3, Sem.run_pure]
    rw [resList_cons, fHV_eq] at h
    split at h
    · exact h.elim
    · exact h.elim
    · rename_i hne1 hne2
      exact mk hne1 hne2 h

theorem retK_sound (hC : CtxOK P c) {B : MB} {g : Ghost} {loc : Loc} {N : Nat} {e : Env} {hp : Hp} {nx : Nat} {a : Act} {w : World} (F : FRel B g loc N e [] a) (H : HeapN w0 hp nx g loc w) {fn : Func} {K : HV → Prop} (h : retK c e hp fn.results.toList K) :
    ∃ hv v, (results fn a.tmps).run P w = .ok v w ∧ K hv ∧ HRel g loc hv v := by
  obtain ⟨hs, vs, h1, h2, h3⟩ := resList_sound hC F H _ _ h
  have hr : (results fn a.tmps).run P w = .ok (if h : vs.toArray.size = 1 then vs.toArray[0] else .tuple vs.toArray) w := by
    rw [results_eq, Sem.run_bind]
    rw [Array.mapM_eq_mapM_toList, Sem.run_map, h3]
    simp
  split at h1
  · rename_i hv
    refine ⟨hv, _, hr, ?_⟩
    · cases vs with
      | nil => simp [HVs] at h2
      | cons v vs =>
        simp only [HVs] at h2
        cases vs with
        | cons => simp [HVs] at h2
        | nil =>
          refine ⟨h1, ?_⟩
          simp only [List.size_toArray, List.length_cons, List.length_nil, Nat.zero_add, List.getElem_toArray, List.getElem_cons_zero, dite_true]
          obtain ⟨us, h4, h5⟩ := h2.1
          cases hv with
          | und => simp [HC] at h4
          | tup => simp [HC] at h4
          | _ => exact ⟨us, h4, h5⟩
  · rename_i hne
    have hlen := HVs_length h2
    have h9 : vs.length ≠ 1 := by
      intro e9
      rw [e9] at hlen
      cases hs with
      | nil => simp at hlen
      | cons x l =>
        cases l with
        | nil => exact hne x rfl
        | cons => simp at hlen
    refine ⟨.tup hs, _, hr, h1, vs, h2, ?_⟩
    rw [dif_neg (by simpa using h9)]

theorem argEnv_lk : ∀ {hs : List HV} {i t : Nat} {h : HV}, lk (argEnv hs i) t = some h → ∃ j, t = i + j ∧ hs[j]? = some h
  | [], _, _, _, hl => by simp [argEnv, lk] at hl
  | x :: hs, i, t, h, hl => by
    simp only [argEnv] at hl
    rw [lk_cons] at hl
    split at hl
    · rename_i e; subst e; exact ⟨0, rfl, by simpa using hl⟩
    · obtain ⟨j, h1, h2⟩ := argEnv_lk hl
      exact ⟨j + 1, by omega, by simpa using h2⟩

theorem FRel.args {B : MB} {g : Ghost} {loc : Loc} {hs : List HV} {vs : List Value} {N : Nat} (hB : B.gh.le g) (hr : ∀ (i : Nat) h v, hs[i]? = some h → vs[i]? = some v → HRel g loc h v) (hlen : hs.length = vs.length) (hle : hs.length ≤ N) :
    FRel B g loc N (argEnv hs 0) [] { tmps := vs.toArray ++ Array.replicate (N - vs.toArray.size) undef, defers := [] } where
  size := by simp; omega
  defers := trivial
  old := hB
  base := by
    intro t h _ hl
    obtain ⟨j, h1, h2⟩ := argEnv_lk hl
    have hj : j < hs.length := (List.getElem?_eq_some_iff.1 h2).1
    have hj' : j < vs.length := by omega
    have e : t = j := by omega
    subst e
    have h3 : (vs.toArray ++ Array.replicate (N - vs.toArray.size) undef).getD t undef = vs[t] := by
      simp [Array.getD_eq_getD_getElem?, Array.getElem?_append, hj']
    show HRel g loc h ((vs.toArray ++ Array.replicate (N - vs.toArray.size) undef).getD t undef)
    rw [h3]
    exact hr t h _ h2 (by simp [hj'])
  reg := fun t k h hl => by simp [lk] at hl
  keys := fun t k h hl => by simp [lk] at hl

/-- A mark's block is shut. -/
theorem HeapRel.shut {hp : Hp} {g : Ghost} {loc : Loc} {w : World} (H : HeapRel w0 hp g loc w) {b : Nat} (x o : Obj) (hb : g b = some x) (hx : ∀ cs T fr, x ≠ .cells cs T fr) (hw : w0.heap.size ≤ b) :
    HeapRel w0 hp (fun k => if k = b then none else g k) loc (w.putObj b o) where
  obj := by
    intro k vo h
    by_cases hl : vo.live = true
    · refine (H.obj k vo h).monoC (fun c cs T fr hc => ?_) (Loc.le_refl _) fun c y z h1 h2 h3 => ?_
      · by_cases e : c = b
        · subst e; rw [hb] at hc; simp only [Option.some.injEq] at hc; exact absurd hc (hx cs T fr)
        · simpa [e] using hc
      · rw [World.putObj_heap_other]
        · exact h3
        · intro e; subst e
          rw [H.sep k vo c y h hl h1 h2] at hb; cases hb
    · have hgc : g.leC (fun k => if k = b then none else g k) := fun c cs T fr hc => by
        by_cases e : c = b
        · subst e; rw [hb] at hc; simp only [Option.some.injEq] at hc; exact absurd hc (hx cs T fr)
        · simpa [e] using hc
      cases vo with
      | dead => trivial
      | froz s xs =>
        rcases H.obj k _ h with ⟨e1, e2⟩ | ⟨b2, cap, T, cs, e1, e2, e3, e4, e5⟩
        · exact .inl ⟨e1, e2⟩
        · exact .inr ⟨b2, cap, T, cs, e1, hgc _ _ _ _ e2, e3, e4, fun j hj => (e5 j hj).monoC hgc⟩
      | _ => simp [VO.live] at hl
  inj := H.inj
  ghost := by
    intro c y h
    by_cases e : c = b
    · simp [e] at h
    · rw [World.putObj_heap_other e]
      exact H.ghost c y (by simpa [e] using h)
  sep := by
    intro k vo c y h1 h2 h3 h4
    have := H.sep k vo c y h1 h2 h3 h4
    simp [this]
  low := H.low
  ext := by
    intro c hc hwr
    rw [World.putObj_heap_other (by omega)]; exact H.ext c hc hwr
  size := by simpa using H.size
  old := by
    intro c y h hlt hwr
    by_cases e : c = b
    · simp [e] at h
    · exact H.old c y (by simpa [e] using h) hlt hwr
  still := H.still

theorem Marks.drop {B : MB} {g : Ghost} {b : Nat} : ∀ {ds : List Deferred}, Marks B g ds → (∀ d' ∈ ds, d'.target ≠ .collected b) → Marks B (fun k => if k = b then none else g k) ds
  | [], _, _ => trivial
  | d :: ds, ⟨⟨k, h1, h2, h3, h4⟩, h⟩, hne => by
    refine ⟨⟨k, h1, h2, ?_, h4⟩, Marks.drop h fun d' hd => hne d' (List.mem_cons_of_mem _ hd)⟩
    have : k ≠ b := fun e => hne d (by simp) (by rw [h1, e])
    simpa [this] using h3

/-- On the way out the marks are taken. -/
theorem leave_sound {B : MB} {n N : Nat} {e : Env} {hp : Hp} {nx : Nat} {loc : Loc} {fn : Func} {R : Ending → World → Prop} (hB : w0.heap.size ≤ B.n)     {tmps : Array Value} : ∀ (ds : List Deferred) (g : Ghost) (w : World), FRel B g loc N e [] { tmps := tmps, defers := ds } → HeapN w0 hp nx g loc w →
    (∀ g' w', FRel B g' loc N e [] { tmps := tmps, defers := [] } → HeapN w0 hp nx g' loc w' → ∃ v, (results fn tmps).run P w' = .ok v w' ∧ R (.returned v) w') →
    LeavesInM Fence.wide n P fn tmps R ds .returning w
  | [], g, w, F, H, k => by
    obtain ⟨v, h1, h2⟩ := k g w F H
    exact ⟨v, h1, h2⟩
  | d :: ds, g, w, F, H, k => by
    obtain ⟨⟨b, rfl, ⟨h2, h2'⟩, h3, h4⟩, hM⟩ := F.defers
    refine ⟨by simp, .inl ⟨b, _, rfl, run_takeDeferred (H.1.ghost b _ h3), ?_⟩⟩
    have hc : g.leC (fun k => if k = b then none else g k) := by
      intro c cs T fr h
      by_cases e : c = b
      · subst e; rw [h3] at h; cases h
      · simpa [e] using h
    refine leave_sound hB ds _ _ ⟨F.size, Marks.drop hM h4, fun c x hx => ?_, fun t h k1 k2 => (F.base t h k1 k2).monoC hc (Loc.le_refl _), fun t k h hl => by simp [lk] at hl, fun t k h hl => by simp [lk] at hl⟩
      ⟨H.1.shut _ _ h3 (fun _ _ _ => by simp) (by omega), H.2⟩ k
    have : c ≠ b := fun e => by subst e; rw [h2'] at hx; cases hx
    simpa [this] using F.old c x hx

/-- A round of a loop over a function is right. -/
def HandOK (P : Program) (w0 : Base) (h : YH) (l : Nat) (g0 : Ghost) (loc0 : Loc) : Prop :=
  ∀ (hs : List HV) (hp : Hp) (nx : Nat) (K : HV → Hp → Nat → Prop) (g : Ghost) (loc : Loc) (w : World) (vs : List Value), h hs hp nx K → g0.le g → loc0.le loc → HeapN w0 hp nx g loc w →
    (∀ (i : Nat) h v, hs[i]? = some h → vs[i]? = some v → HRel g loc h v) → hs.length = vs.length →
    OpWp P (fun v w' => ∃ h hp' nx' g' loc', K h hp' nx' ∧ g.le g' ∧ loc.le loc' ∧ HeapN w0 hp' nx' g' loc' w' ∧ HRel g' loc' h v) ((Instr.yield l vs.toArray).run P w)
def YOK (P : Program) (w0 : Base) (ys : Ys) (g : Ghost) (loc : Loc) : Prop := ∀ o h, lk ys o = some h → ∃ l r, loc o = some (.loop l r) ∧ HandOK P w0 h l g loc
theorem YOK.mono {ys : Ys} {g g' : Ghost} {loc loc' : Loc} (hg : g.le g') (hl : loc.le loc') (h : YOK P w0 ys g loc) : YOK P w0 ys g' loc' := by
  intro o hh h1
  obtain ⟨l, r, h2, h3⟩ := h o hh h1
  exact ⟨l, r, hl _ _ h2, fun hs hp nx K g2 loc2 w vs k1 k2 k3 => h3 hs hp nx K g2 loc2 w vs k1 (Ghost.le_trans hg k2) (Loc.le_trans hl k3)⟩

/-- The fence of a function's own code, and of a round's. -/
def FOKB (inR : Bool) (F : Fence) : Prop := FOK F ∧ (inR = false → F = Fence.wide)

/-- Code that is walked through. -/
def VcOK (P : Program) (w0 : Base) (ys : Ys) (inR : Bool) (vc : Nat → Code → Env → Hp → Nat → (Exit → Env → Hp → Nat → Prop) → Prop) : Prop :=
  ∀ (N : Nat) (code : Code) (e : Env) (hp : Hp) (nx : Nat) (K : Exit → Env → Hp → Nat → Prop), vc N code e hp nx K → ∀ (B : MB) (Fe : Fence) (fn : Nat), B.n = w0.heap.size → FOKB inR Fe → ∀ g loc a w, YOK P w0 ys g loc → FRel B g loc N e [] a → HeapN w0 hp nx g loc w → code.wpIn Fe fn P (Ends B w0 N K g loc) a w

theorem intoFun_sound (hC : CtxOK P c) {vc : Nat → Code → Env → Hp → Nat → (Exit → Env → Hp → Nat → Prop) → Prop} {ys : Ys} (hV : VcOK P w0 ys false vc) {f : Nat} {F : Func} (hf : P.funcs[f]? = some F) {hs : List HV} {hp : Hp} {nx : Nat} {K : HV → Hp → Nat → Prop} {g : Ghost} {loc : Loc} {w : World} {vs : List Value}
    (hY : YOK P w0 ys g loc) (h : intoFun c vc F hs hp nx K) (H : HeapN w0 hp nx g loc w) (hr : ∀ (i : Nat) h v, hs[i]? = some h → vs[i]? = some v → HRel g loc h v) (hlen : hs.length = vs.length) :
    Calls P f vs.toArray w fun e w' => ∃ v, e = .returned v ∧ ∃ h hp' nx' g' loc', K h hp' nx' ∧ g.le g' ∧ loc.le loc' ∧ HeapN w0 hp' nx' g' loc' w' ∧ HRel g' loc' h v := by
  unfold intoFun at h
  split at h
  · exact h.elim
  · rename_i b hb
    split at h
    · rename_i hle
      rw [argEnvK_eq] at h
      have hw := hV _ _ _ _ _ _ h ⟨w0.heap.size, g⟩ Fence.wide 0 rfl ⟨.wide, fun _ => rfl⟩ g loc _ w hY (FRel.args (Ghost.le_refl g) hr hlen (Nat.le_of_ble_eq_true hle)) H
      refine callsIn_wide.1 (callsIn_of_wp_marks (n := 0) hf hb trivial (wpIn_mono hw ?_))
      rintro x a w' ⟨e', hp', nx', g', loc', h1, h2, h3, h4, h5⟩
      have fin : retK c e' hp' F.results.toList (fun h => K h hp' nx') → LeavesInM Fence.wide 0 P F a.tmps (fun e w' => ∃ v, e = .returned v ∧ ∃ h hp' nx' g' loc', K h hp' nx' ∧ g.le g' ∧ loc.le loc' ∧ HeapN w0 hp' nx' g' loc' w' ∧ HRel g' loc' h v) a.defers .returning w' := by
        intro h1
        refine leave_sound (w0 := w0) (B := ⟨w0.heap.size, g⟩) (Nat.le_refl _) a.defers g' w' h4 h5 fun g2 w2 k2 k3 => ?_
        obtain ⟨hv, v, m1, m2, m3⟩ := retK_sound hC k2 k3 h1
        exact ⟨v, m1, v, rfl, hv, hp', nx', g2, loc', m2, k2.old, h3, k3, m3⟩
      cases x with
      | normal => exact fin h1
      | ret => exact fin h1
      | _ => exact h1.elim
    · exact h.elim

theorem run_callFunc {f : Nat} {F : Func} (hf : P.funcs[f]? = some F) (hb : F.body.isSome = true) (hn : F.name ≠ "runtime.NumGoroutine") (vs : Array Value) (w : World) : (callFunc f vs).run P w = .ok (.enter f vs) w := by
  have h2 : F.body ≠ none := by cases hb' : F.body <;> simp_all
  simp [callFunc, hf, hn, h2]

theorem into_sound (hC : CtxOK P c) {ys : Ys} {vc : Nat → Code → Env → Hp → Nat → (Exit → Env → Hp → Nat → Prop) → Prop} (hV : VcOK P w0 ys false vc) {g0 : Ghost} {loc0 : Loc} (hY : YOK P w0 ys g0 loc0) : InlOK P w0 g0 loc0 (into c ys vc) := by
  intro k hs hp nx K g loc w vs r h hg0 hl0 H hr hlen hrun
  unfold into at h
  cases k with
  | fn f =>
    simp only at h
    split at h
    · exact h.elim
    · rename_i F hF
      obtain ⟨h1, h2, h3⟩ := hC.funs _ _ hF
      simp only [CalRun] at hrun
      rw [hrun, run_callFunc h1 h2 h3]
      exact intoFun_sound hC hV h1 (hY.mono hg0 hl0) h H hr hlen
  | yl o =>
    simp only at h
    split at h
    · exact h.elim
    · rename_i hh hlk
      obtain ⟨l, lr, h1, rfl⟩ := hrun
      obtain ⟨l', lr', h2, h3⟩ := hY _ _ hlk
      have := hl0 _ _ h2
      rw [h1] at this
      simp only [Option.some.injEq, Place.loop.injEq] at this
      obtain ⟨rfl, rfl⟩ := this
      exact h3 hs hp nx K g loc w vs h hg0 hl0 H hr hlen

theorem zipEnv_rel {g : Ghost} {loc : Loc} {N : Nat} : ∀ (ps : List Nat) (hs : List HV) (vs : List Value) (e : Env) (ts : Array Value), allBlt N ps = true → ts.size = N → (∀ t h, lk e t = some h → HRel g loc h (ts.getD t undef)) →
    (∀ (i : Nat) h v, hs[i]? = some h → vs[i]? = some v → HRel g loc h v) → hs.length = ps.length → vs.length = ps.length →
    ((ps.zip vs).foldl (fun t (p : Nat × Value) => t.setIfInBounds p.1 p.2) ts).size = N ∧ ∀ t h, lk (zipEnv ps hs e) t = some h → HRel g loc h (((ps.zip vs).foldl (fun t (p : Nat × Value) => t.setIfInBounds p.1 p.2) ts).getD t undef)
  | [], [], [], e, ts, _, hsz, he, _, _, _ => ⟨hsz, he⟩
  | p :: ps, h :: hs, v :: vs, e, ts, hb, hsz, he, hr, hl1, hl2 => by
    simp only [allBlt, Bool.and_eq_true] at hb
    simp only [zipEnv, List.zip_cons_cons, List.foldl_cons]
    refine zipEnv_rel ps hs vs ((p, h) :: e) (ts.setIfInBounds p v) hb.2 (by simpa using hsz) (fun t h' hlk => ?_) (fun i a b h1 h2 => hr (i + 1) a b (by simpa using h1) (by simpa using h2)) (by simpa using hl1) (by simpa using hl2)
    rw [lk_cons] at hlk
    split at hlk
    · rename_i ee; subst ee
      simp only [Option.some.injEq] at hlk; subst hlk
      rw [getD_set_same _ _ _ (by rw [hsz]; exact nat_blt hb.1)]
      exact hr 0 h v rfl rfl
    · rename_i hne
      rw [getD_set_ne' _ _ _ _ (Ne.symm hne)]
      exact he t h' hlk
  | [], _ :: _, _, _, _, _, _, _, _, h, _ => by simp at h
  | _ :: _, [], _, _, _, _, _, _, _, h, _ => by simp at h
  | [], [], _ :: _, _, _, _, _, _, _, _, h => by simp at h
  | _ :: _, _ :: _, [], _, _, _, _, _, _, _, h => by simp at h

/-- The record of a loop turns. -/
theorem HeapN.turn {hp : Hp} {nx : Nat} {g : Ghost} {loc : Loc} {w : World} (H : HeapN w0 hp nx g loc w) {o l : Nat} {r : Go.Loop} {st st' : LSt} (ho : lk hp o = some (.loop st)) (hl : loc o = some (.loop l r)) :
    w.heap[l]? = some (.loop (st.at r)) ∧ HeapN w0 ((o, .loop st') :: hp) nx g loc (w.putObj l (.loop (st'.at r))) := by
  obtain ⟨b, r', h1, h2⟩ := H.1.obj o _ ho
  rw [hl] at h1
  simp only [Option.some.injEq, Place.loop.injEq] at h1
  obtain ⟨rfl, rfl⟩ := h1
  have hlt : l < w.heap.size := (Array.getElem?_eq_some_iff.1 h2).1
  refine ⟨h2, HeapRel.set H.1 ho rfl hl rfl (by simp) (fun k hk => World.putObj_heap_other hk) ⟨rfl, rfl⟩ ⟨l, r, hl, World.putObj_heap_same hlt⟩, H.2⟩

theorem HeapN.kill {hp : Hp} {nx : Nat} {g : Ghost} {loc : Loc} {w : World} (H : HeapN w0 hp nx g loc w) (o : Nat) : HeapN w0 ((o, .dead) :: hp) nx g loc w := ⟨H.1.kill o, H.2⟩

/-- **A round.** -/
theorem roundK_sound {vc : Nat → Code → Env → Hp → Nat → (Exit → Env → Hp → Nat → Prop) → Prop} {ys : Ys} (hV : VcOK P w0 ys true vc) {B : MB} {N : Nat} {e : Env} {o l : Nat} {ps : Array Nat} {assign body : Code} {r : Go.Loop} {a : Act} {g0 : Ghost} {loc0 : Loc}
    (hr : r.params = ps ∧ r.assign = assign ∧ r.body = body ∧ r.tmps = a.tmps) (hps : allBlt N ps.toList = true) (hBn : B.n = w0.heap.size) (F : FRel B g0 loc0 N e [] a) (hY : YOK P w0 ys g0 loc0) (hl : loc0 o = some (.loop l r)) :
    HandOK P w0 (roundK vc N e o ps.toList assign body) l g0 loc0 := by
  intro hs hp nx Kh g loc w vs h hg0 hl0 H hrel hlen
  unfold roundK at h
  split at h
  · rename_i hpl hlk
    rw [zipEnvK_eq] at h
    have hpl' : hs.length = ps.toList.length := Nat.eq_of_beq_eq_true hpl
    have hlo := hl0 _ _ hl
    obtain ⟨hrp, hra, hrb, hrt⟩ := hr
    obtain ⟨h2, _⟩ := H.turn (st' := .ready) hlk hlo
    have hvl : vs.length = ps.toList.length := by omega
    have hy := run_yield (P := P) (args := vs.toArray) h2 (by simp only [LSt.at, hrp, List.size_toArray]; simpa using hvl)
    rw [hy]
    intro n
    have hz := zipEnv_rel (g := g) (loc := loc) ps.toList hs vs e a.tmps hps F.size (fun t h hk => (F.base t h rfl hk).mono hg0 hl0) hrel hpl' hvl
    have ht : ((LSt.ready.at r).params.zip vs.toArray).foldl (fun tmps (x : Nat × Value) => tmps.setIfInBounds x.1 x.2) (LSt.ready.at r).tmps = (ps.toList.zip vs).foldl (fun t (p : Nat × Value) => t.setIfInBounds p.1 p.2) a.tmps := by
      simp only [LSt.at, hrp, hrt]
      rw [← Array.foldl_toList]
      simp
    refine roundIn_of_wpIn trivial ?_
    have e0 : (LSt.ready.at r).assign = assign := hra
    have e1 : (LSt.ready.at r).body = body := hrb
    rw [e0, e1]
    have hFr : FRel B g loc N (zipEnv ps.toList hs e) [] { tmps := ((LSt.ready.at r).params.zip vs.toArray).foldl (fun tmps (x : Nat × Value) => tmps.setIfInBounds x.1 x.2) (LSt.ready.at r).tmps, defers := [] } := by
      refine ⟨?_, trivial, Ghost.le_trans F.old hg0, fun t h _ hk => ?_, fun t k h hl => by simp [lk] at hl, fun t k h hl => by simp [lk] at hl⟩
      · simp only [ht]; exact hz.1
      · simp only [ht]; exact hz.2 t h hk
    refine wpIn_mono (hV N assign _ hp nx _ h B (Fence.wide.inRound l) n hBn ⟨.round l, fun h => by cases h⟩ g loc _ w (hY.mono hg0 hl0) hFr H) ?_
    rintro x a' w' ⟨e', hp', nx', g', loc', h1, h3, h4, h5, h6⟩
    cases x with
    | normal =>
      simp only at h1
      split at h1
      · rename_i hlk'
        obtain ⟨m1, m2⟩ := h6.turn (st' := .busy) hlk' (h4 _ _ hlo)
        refine ⟨_, run_beginRound m1 rfl, ?_⟩
        refine wpIn_mono (hV N body e' _ nx' _ h1 B (Fence.wide.inRound l) n hBn ⟨.round l, fun h => by cases h⟩ g' loc' a' _ ((hY.mono hg0 hl0).mono h3 h4) h5 m2) ?_
        rintro x2 a2 w2 ⟨e2, hp2, nx2, g2, loc2, k1, k2, k3, k4, k5⟩
        unfold roundEnd at k1
        split at k1
        · rename_i hlk2
          have hl2 := k3 _ _ (h4 _ _ hlo)
          have fin : ∀ (st' : LSt) (jump : Option Code), (st'.at r) = { LSt.busy.at r with state := if jump.isNone then .ready else .done, pending := jump } → Kh (.dat .bool (.B jump.isNone)) ((o, .loop st') :: hp2) nx2 →
              ∃ v w', (Instr.endRound l jump).run P w2 = .ok v w' ∧ ∃ v', Ending.returned v = .returned v' ∧ ∃ h hp' nx' g' loc', Kh h hp' nx' ∧ g.le g' ∧ loc.le loc' ∧ HeapN w0 hp' nx' g' loc' w' ∧ HRel g' loc' h v' := by
            intro st' jump he hk
            obtain ⟨q1, q2⟩ := k5.turn (st' := st') hlk2 hl2
            refine ⟨_, _, run_endRound jump q1, _, rfl, _, _, _, g2, loc2, hk, Ghost.le_trans h3 k2, Loc.le_trans h4 k3, ?_, HRel.bool_mk⟩
            rw [← he]; exact q2
          cases x2 with
          | normal => exact fin .ready none rfl k1
          | ret => exact fin (.done .ret) (some .ret) rfl k1
          | exit j => exact fin (.done (.exit j)) (some (.exit j)) rfl k1
          | goto t => exact fin (.done (.goto t)) (some (.goto t)) rfl k1
          | _ => exact k1.elim
        · exact k1.elim
      · exact h1.elim
    | _ => exact h1.elim
  · exact h.elim

theorem marks_lt {B : MB} {hp : Hp} {g : Ghost} {loc : Loc} {w : World} (H : HeapRel w0 hp g loc w) : ∀ {ds : List Deferred}, Marks B g ds → ∀ d ∈ ds, d.target ≠ .collected w.heap.size
  | [], _, d, hd => by cases hd
  | d0 :: ds, ⟨⟨k, h1, _, h3, _⟩, h⟩, d, hd => by
    rcases List.mem_cons.1 hd with rfl | hd
    · rw [h1]
      intro e
      simp only [Target.collected.injEq] at e
      have := (Array.getElem?_eq_some_iff.1 (H.ghost _ _ h3)).1
      omega
    · exact marks_lt H h d hd

theorem alloc_deferred_ghost {hp : Hp} {nx : Nat} {g : Ghost} {loc : Loc} {w : World} (H : HeapN w0 hp nx g loc w) :
    g.le (fun b => if b = w.heap.size then some (.deferred (some [])) else g b) ∧ HeapRel w0 hp (fun b => if b = w.heap.size then some (.deferred (some [])) else g b) loc (w.alloc (.deferred (some []))) := by
  have hno : ∀ x, g w.heap.size ≠ some x := fun x hx => by
    have := (Array.getElem?_eq_some_iff.1 (H.1.ghost _ _ hx)).1
    omega
  have hle : g.le (fun b => if b = w.heap.size then some (.deferred (some [])) else g b) := by
    intro b x hx
    have : b ≠ w.heap.size := fun e => by subst e; exact hno x hx
    simpa [this] using hx
  refine ⟨hle, H.1.grown (ExtAll.alloc _ _) hle (fun b x hx => ?_) (fun b x hx => ?_)⟩
  · by_cases e : b = w.heap.size
    · exact .inr (by omega)
    · exact .inl (by simpa [e] using hx)
  · by_cases e : b = w.heap.size
    · subst e
      simp only [if_true, Option.some.injEq] at hx
      subst hx
      exact heap_alloc_new _ _
    · exact (ExtAll.alloc w _).get (H.1.ghost b x (by simpa [e] using hx))

theorem exists_least {p : Nat → Prop} : ∀ n, p n → ∃ n, p n ∧ ∀ m, p m → n ≤ m := by
  intro n
  induction n using Nat.strongRecOn with
  | _ n ih =>
    intro hn
    by_cases h : ∃ m, m < n ∧ p m
    · obtain ⟨m, hm, hp⟩ := h
      exact ih m hm hp
    · exact ⟨n, hn, fun m hm => by
        apply Classical.byContradiction; intro hlt
        exact h ⟨m, by omega, hm⟩⟩
open Classical in
noncomputable def leastN (p : Nat → Prop) : Nat := if h : ∃ n, p n ∧ ∀ m, p m → n ≤ m then Classical.choose h else 0
theorem leastN_spec {p : Nat → Prop} (h : ∃ n, p n) : p (leastN p) := by
  obtain ⟨n, hn⟩ := h
  have h := exists_least n hn
  unfold leastN
  rw [dif_pos h]
  exact (Classical.choose_spec h).1
theorem leastN_le {p : Nat → Prop} {n : Nat} (hn : p n) : leastN p ≤ n := by
  have h := exists_least n hn
  unfold leastN
  rw [dif_pos h]
  exact (Classical.choose_spec h).2 n hn

theorem vcCode_sound (hC : CtxOK P c) (hm : P.follows .mixedOrders = true) : ∀ (fu : Nat) (ys : Ys) (inR : Bool), VcOK P w0 ys inR (vcCode c fu ys inR)
  | 0, ys, inR, N, code, e, hp, nx, K, h => h.elim
  | fu + 1, ys, inR, N, code, e, hp, nx, K, h => by
    have ih := vcCode_sound hC hm fu ys inR
    have ihf := vcCode_sound hC hm fu
    intro B Fe fn hBn hFo g loc a w hY F H
    cases code with
    | skip => exact wpIn_skip ⟨e, hp, nx, g, loc, h, Ghost.le_refl g, Loc.le_refl loc, F, H⟩
    | region id ops draw =>
      rw [vcCode_succ] at h
      simp only [vcStep] at h
      cases draw with
      | false =>
        simp only at h
        refine wpIn_region_list ?_
        have e1 : ops = ops.toList.toArray := by simp
        have := vcOps_sound (B := B) hFo.1 (fn := fn) hC (into_sound hC (ihf ys false) hY) (Q := Ends B w0 N K g loc) ops.toList [] hp nx g loc a w h (Ghost.le_refl g) (Loc.le_refl loc) ⟨F.size, F.defers, F.old, F.base, fun t k h hl => by simp [lk] at hl, fun t k h hl => by simp [lk] at hl⟩ H ?_
        · rw [← e1] at this; exact this
        · intro re hp' nx' g' loc' a' w' hk hg hl F' H'
          obtain ⟨e2, hk2, F2⟩ := mergeC_rel F' hk
          exact ⟨e2, _, _, g', loc', hk2, hg, hl, F2, H'⟩
      | true =>
        simp only at h
        refine wpIn_region_any hm ?_
        let R0 : Nat → Rec := fun _ => ⟨none, [], .und, [], [], []⟩
        obtain ⟨R, hf, hK⟩ := vcDraw_facts ops.toList 0 [] R0 (by simp) (fun j hj => absurd hj (Nat.not_lt_zero j)) (fun j hj => absurd hj (Nat.not_lt_zero j)) (fun x hx => by simp at hx) (vcDrawF_draw _ _ _ _ _ (by simp) h).2
        have hrep : ∀ j, (Array.replicate ops.size false).getD j false = false := fun j => by
          rw [Array.getD_eq_getD_getElem?, Array.getElem?_replicate]; split <;> rfl
        have e0 : ∀ (L : Nat → Bool), (∀ j, L j = false) → ∀ n, reAt R L n = [] ∧ rhAt R L n = [] := by
          intro L hL n
          induction n with
          | zero => exact ⟨rfl, rfl⟩
          | succ n ihn =>
            have hn : ¬ L n = true := by rw [hL n]; simp
            simp only [reAt, rhAt, if_neg hn]; exact ihn
        have hall := draw_any (B := B) (P := P) (w0 := w0) hFo.1 (fn := fn) hC hf (Q := Ends B w0 N K g loc) (g0 := g) (loc0 := loc) ?_ ops.toList.length (Array.replicate ops.size false) a { w with drawn := w.drawn + 1 } g loc (by simp) ?_ (Ghost.le_refl g) (Loc.le_refl loc) ?_
        · have e1 : ops = ops.toList.toArray := by simp
          rw [← e1, ← Array.length_toList] at *
          exact hall
        · intro g' loc' a' w' hg hl D
          obtain ⟨e2, hK2, F2⟩ := mergeC_rel D.F hK
          rw [mergeHK_eq] at hK2
          refine ⟨e2, _, _, g', loc', hK2, hg, hl, F2, mergeH_rel D.H, ?_⟩
          intro o ho
          exact D.fresh o (by omega) fun i hi _ => by omega
        · rw [List.filter_eq_self.2 (fun j _ => by rw [hrep j]; rfl)]; simp
        · refine ⟨?_, ?_, ?_, ?_⟩
          · rw [(e0 _ hrep _).1]; exact F
          · rw [(e0 _ hrep _).2]; exact H.1.drew
          · intro o ho _; exact H.2 o ho
          · intro j oj _ hj; simp only [hrep] at hj; cases hj
    | seq x y =>
      rw [vcCode_succ] at h
      simp only [vcStep] at h
      refine wpIn_seq (wpIn_mono (ih N x e hp nx _ h B Fe fn hBn hFo g loc a w hY F H) ?_)
      rintro ex a' w' ⟨e', hp', nx', g', loc', h1, h2, h3, h4, h5⟩
      cases ex with
      | normal => exact wpIn_mono (ih N y e' hp' nx' K h1 B Fe fn hBn hFo g' loc' a' w' (hY.mono h2 h3) h4 h5) fun _ _ _ q => q.mono h2 h3
      | _ => exact ⟨e', hp', nx', g', loc', h1, h2, h3, h4, h5⟩
    | cond x y z =>
      rw [vcCode_succ] at h
      simp only [vcStep] at h
      split at h
      · rename_i d hd
        have hc := (hd ▸ rho_rel F (fun x hx => by simp at hx) x).bool
        exact wpIn_cond_split hc (fun ht => ih N y e hp nx K (h.1 ht) B Fe fn hBn hFo g loc a w hY F H) (fun ht => ih N z e hp nx K (h.2 ht) B Fe fn hBn hFo g loc a w hY F H)
      · exact h.elim
    | block id b =>
      rw [vcCode_succ] at h
      simp only [vcStep] at h
      refine wpIn_block (wpIn_mono (ih N b e hp nx _ h B Fe fn hBn hFo g loc a w hY F H) ?_)
      rintro ex a' w' ⟨e', hp', nx', g', loc', h1, h2, h3, h4, h5⟩
      cases ex with
      | exit j =>
        simp only [Exit.inBlock]
        simp only at h1
        split at h1
        · rename_i hj
          rw [if_pos (Nat.eq_of_beq_eq_true hj)]
          exact ⟨e', hp', nx', g', loc', h1, h2, h3, h4, h5⟩
        · rename_i hj
          rw [if_neg (fun e => by subst e; simp at hj)]
          exact ⟨e', hp', nx', g', loc', h1, h2, h3, h4, h5⟩
      | _ => exact ⟨e', hp', nx', g', loc', h1, h2, h3, h4, h5⟩
    | loop b =>
      rw [vcCode_succ] at h
      simp only [vcStep] at h
      obtain ⟨X, m, mk', μ, x0, hc, hround0⟩ := h
      have hround := fun x => ((fEnv_eq _ _).mp (hround0 x))
      simp only [fHp_eq] at hround
      let mk : X → ST := fun x => ((mk' x).1, (mk' x).2, m)
      have agree : ∀ loc', (∀ o, o < nx → loc' o = loc o) → loc.le loc' := fun loc' hl o x ho => by
        by_cases hlt : o < nx
        · rw [hl o hlt]; exact ho
        · rw [H.2 o (by omega)] at ho; cases ho
      obtain ⟨gc, loc1, hgc, hl1, F1, H1⟩ := covers_rel hc F H
      refine wpIn_loop_ghost (fun n a w => ∃ x g' loc', μ x = n ∧ g.le g' ∧ loc.le loc' ∧ FRel B g' loc' N (mk x).1 [] a ∧ HeapN w0 (mk x).2.1 (mk x).2.2 g' loc' w) (μ x0) ⟨x0, gc, loc1, rfl, hgc, agree _ hl1, F1, H1⟩ ?_
      rintro n a' w' ⟨x, g', loc', rfl, hg, hl, F', H'⟩
      refine wpIn_mono (ih N b _ _ _ _ (hround x) B Fe fn hBn hFo g' loc' a' w' (hY.mono hg hl) F' H') ?_
      rintro ex a2 w2 ⟨e2, hp2, nx2, g2, loc2, k1, k2, k3, k4, k5⟩
      cases ex with
      | normal =>
        obtain ⟨x', hc', hlt⟩ := k1
        obtain ⟨g3, loc3, hg3, hl3, F3, H3⟩ := covers_rel hc' k4 k5
        refine ⟨μ x', hlt, x', g3, loc3, rfl, Ghost.le_trans (Ghost.le_trans hg k2) hg3, ?_, F3, H3⟩
        intro o y ho
        have hlt : o < nx := by
          apply Classical.byContradiction; intro hn
          rw [H.2 o (by omega)] at ho; cases ho
        rw [hl3 o hlt]; exact k3 _ _ (hl _ _ ho)
      | _ => exact ⟨e2, hp2, nx2, g2, loc2, k1, Ghost.le_trans hg k2, Loc.le_trans hl k3, k4, k5⟩
    | label l =>
      rw [vcCode_succ] at h
      simp only [vcStep] at h
      exact wpIn_label ⟨e, hp, nx, g, loc, h, Ghost.le_refl g, Loc.le_refl loc, F, H⟩
    | goto l =>
      rw [vcCode_succ] at h
      simp only [vcStep] at h
      exact wpIn_goto ⟨e, hp, nx, g, loc, h, Ghost.le_refl g, Loc.le_refl loc, F, H⟩
    | scope b =>
      rw [vcCode_succ] at h
      simp only [vcStep] at h
      cases inR with
      | true => exact h.elim
      | false =>
        simp only at h
        have hw := hFo.2 rfl
        subst hw
        obtain ⟨l, X, m, mk', μ, h1, h2⟩ := h
        refine wpIn_wide.2 ?_
        have hfirst := ih N b e hp nx _ h1 B Fence.wide fn hBn hFo g loc a w hY F H
        split at h2
        · refine wp_scope_straight (wpIn_wide.1 (wpIn_mono hfirst ?_))
          rintro ex a' w' ⟨e', hp', nx', g', loc', k1, k2, k3, k4, k5⟩
          cases ex with
          | goto l' => obtain ⟨_, x', _⟩ := k1; exact (h2 x').elim
          | _ => exact ⟨e', hp', nx', g', loc', k1, k2, k3, k4, k5⟩
        · rename_i rest hf
          have hround := fun x => ((fEnv_eq _ _).mp (h2 x))
          simp only [fHp_eq] at hround
          let mk : X → ST := fun x => ((mk' x).1, (mk' x).2, m)
          have agree : ∀ loc', (∀ o, o < nx → loc' o = loc o) → loc.le loc' := fun loc' hl o x ho => by
            by_cases hlt : o < nx
            · rw [hl o hlt]; exact ho
            · rw [H.2 o (by omega)] at ho; cases ho
          have again : ∀ (loc2 loc3 : Loc), loc.le loc2 → (∀ o, o < nx → loc3 o = loc2 o) → loc.le loc3 := fun loc2 loc3 hl h3 o y ho => by
            have hlt : o < nx := by
              apply Classical.byContradiction; intro hn
              rw [H.2 o (by omega)] at ho; cases ho
            rw [h3 o hlt]; exact hl _ _ ho
          let Jn : Nat → Act → World → Prop := fun n a w => ∃ x g' loc', μ x = n ∧ g.le g' ∧ loc.le loc' ∧ FRel B g' loc' N (mk x).1 [] a ∧ HeapN w0 (mk x).2.1 (mk x).2.2 g' loc' w
          let μ' : Act → World → Nat := fun a w => leastN fun n => Jn n a w
          refine wp_scope_jumps l (fun a w => ∃ n, Jn n a w) μ' hf (wpIn_wide.1 (wpIn_mono hfirst ?_)) ?_
          · rintro ex a' w' ⟨e', hp', nx', g', loc', k1, k2, k3, k4, k5⟩
            cases ex with
            | goto l' =>
              obtain ⟨rfl, x', hc⟩ := k1
              obtain ⟨g3, loc3, hg3, hl3, F3, H3⟩ := covers_rel hc k4 k5
              exact ⟨rfl, μ x', x', g3, loc3, rfl, Ghost.le_trans k2 hg3, again loc' loc3 k3 hl3, F3, H3⟩
            | _ => exact ⟨e', hp', nx', g', loc', k1, k2, k3, k4, k5⟩
          · intro a1 w1 hJ
            obtain ⟨x, g1, loc1, hx, hg1, hl1, F1, H1⟩ := leastN_spec hJ
            refine wpIn_wide.1 (wpIn_mono (ih N rest _ _ _ _ (hround x) B Fence.wide fn hBn hFo g1 loc1 a1 w1 (hY.mono hg1 hl1) F1 H1) ?_)
            rintro ex a' w' ⟨e', hp', nx', g', loc', k1, k2, k3, k4, k5⟩
            cases ex with
            | goto l' =>
              obtain ⟨rfl, x', hc, hlt⟩ := k1
              obtain ⟨g3, loc3, hg3, hl3, F3, H3⟩ := covers_rel hc k4 k5
              have hn : Jn (μ x') a' w' := ⟨x', g3, loc3, rfl, Ghost.le_trans (Ghost.le_trans hg1 k2) hg3, again loc' loc3 (Loc.le_trans hl1 k3) hl3, F3, H3⟩
              refine ⟨rfl, ⟨_, hn⟩, ?_⟩
              have := leastN_le (p := fun n => Jn n a' w') hn
              show leastN _ < leastN _
              rw [← hx]
              exact Nat.lt_of_le_of_lt this hlt
            | _ => exact ⟨e', hp', nx', g', loc', k1, Ghost.le_trans hg1 k2, Loc.le_trans hl1 k3, k4, k5⟩
    | rangeFunc g' ps assign body =>
      rw [vcCode_succ] at h
      simp only [vcStep] at h
      split at h
      · exact h.elim
      · rename_i hb
        simp only [Bool.or_eq_false_iff, Bool.not_eq_false'] at hb
        obtain ⟨rfl, hps⟩ := hb
        have hw := hFo.2 rfl
        subst hw
        split at h
        · rename_i f caps hrg
          obtain ⟨hle, H1⟩ := alloc_deferred_ghost H
          refine wpIn_rangeFunc fun fn' _ => ?_
          have hfv := hrg ▸ rho_rel F (fun x hx => by simp at hx) g'
          obtain ⟨us, h1, h2⟩ := hfv
          simp only [HC] at h1
          obtain ⟨cs, h3, rfl⟩ := h1
          simp only [HV.agg, mkV, List.headD_cons] at h2
          let rec' : Go.Loop := { state := .ready, pending := none, fn := fn', tmps := a.tmps, params := ps, assign := assign, body := body, defers := w.heap.size }
          let g1 : Ghost := fun b => if b = w.heap.size then some (.deferred (some [])) else g b
          let loc1 := loc.upd nx (.loop (w.heap.size + 1) rec')
          let w1 := (w.alloc (.deferred (some []))).alloc (.loop rec')
          have hnx := H.2 nx (Nat.le_refl _)
          have hll : loc.le loc1 := Loc.le_upd hnx
          have hlo : loc1 nx = some (.loop (w.heap.size + 1) rec') := Loc.upd_same
          have H2 : HeapN w0 ((nx, .loop .ready) :: hp) (nx + 1) g1 loc1 w1 := by
            refine ⟨H1.new hnx (ExtAll.alloc _ _) _ _ (fun b hb => ?_) ⟨w.heap.size + 1, rec', Loc.upd_same, ?_⟩, fun o ho => ?_⟩
            · simp only [Place.blk, Option.some.injEq] at hb; subst hb; simp
            · have := heap_alloc_new (w.alloc (.deferred (some []))) (.loop rec')
              rw [World.size_alloc] at this
              exact this
            · show loc.upd nx _ o = none
              rw [Loc.upd_other (by omega)]; exact H.2 o (by omega)
          have F1 : FRel B g1 loc1 N e [] a := F.mono hle hll
          have hY1 : YOK P w0 ys g1 loc1 := hY.mono hle hll
          have hand := roundK_sound (ihf ys true) (assign := assign) (body := body) (ps := ps) (r := rec') (o := nx) ⟨rfl, rfl, rfl, rfl⟩ hps hBn F1 hY1 hlo
          have hY2 : YOK P w0 ((nx, roundK (vcCode c fu ys true) N e nx ps.toList assign body) :: ys) g1 loc1 := by
            intro o hh hlk
            rw [lk_cons] at hlk
            split at hlk
            · rename_i ee; subst ee
              simp only [Option.some.injEq] at hlk; subst hlk
              exact ⟨_, _, hlo, hand⟩
            · exact hY1 o hh hlk
          have hargs : ∀ (i : Nat) h v, (HV.yld nx :: caps)[i]? = some h → (Value.func (.yield (w.heap.size + 1)) #[] #[] :: cs)[i]? = some v → HRel g1 loc1 h v := by
            intro i hh v k1 k2
            cases i with
            | zero =>
              simp only [List.getElem?_cons_zero, Option.some.injEq] at k1 k2
              subst k1; subst k2
              exact ⟨[.func (.yield (w.heap.size + 1)) #[] #[]], by simp only [HC]; exact ⟨_, _, hlo, rfl⟩, rfl⟩
            | succ i =>
              simp only [List.getElem?_cons_succ] at k1 k2
              obtain ⟨v', h6, h7⟩ := HVs_get (h3.mono hle hll) k1
              rw [h6] at k2
              simp only [Option.some.injEq] at k2; subst k2; exact h7
          have hinto := into_sound hC (ihf _ false) hY2 (.fn f) _ _ _ _ g1 loc1 w1 (Value.func (.yield (w.heap.size + 1)) #[] #[] :: cs) _ h (Ghost.le_refl _) (Loc.le_refl _) H2 hargs (by simp [HVs_length h3]) rfl
          have hF : ∃ Fn, lk c.funs f = some Fn := by
            unfold into at h
            simp only at h
            split at h
            · exact h.elim
            · exact ⟨_, by assumption⟩
          obtain ⟨Fn, hFn⟩ := hF
          obtain ⟨q1, q2, q3⟩ := hC.funs _ _ hFn
          rw [run_callFunc q1 q2 q3] at hinto
          simp only [OpWp] at hinto
          refine ⟨w.heap.size + 1, [{ target := .collected w.heap.size, args := #[] }], w1, { target := .fn (.func f) cs.toArray, args := #[.func (.yield (w.heap.size + 1)) #[] #[]] }, w1, f, (Value.func (.yield (w.heap.size + 1)) #[] #[] :: cs).toArray, w1, ?_, ?_, ?_, ?_, ?_, ?_⟩
          · exact run_enterLoop_outer _ _ _ _ _
          · simp only [resolve, h2]
            simp [go_sem]
          · intro f' _; trivial
          · have e9 : (Value.func (.yield (w.heap.size + 1)) #[] #[] :: cs).toArray = #[.func (.yield (w.heap.size + 1)) #[] #[]] ++ cs.toArray := by simp
            rw [e9]
            simp [invoke, go_sem, run_callFunc q1 q2 q3]
          · intro hd; cases hd
          · refine (callsIn_wide.2 hinto).mono ?_
            rintro en w3 ⟨v, rfl, hv, hp', nx', g2, loc2, k1, k2, k3, k4, k5⟩
            have hl2 := k3 _ _ hlo
            have hM : ∀ g3, g2.le g3 → FRel B g3 loc2 N e [] { a with defers := [{ target := .collected w.heap.size, args := #[] }] ++ a.defers } := by
              intro g3 hg3
              have F3 := F1.mono (Ghost.le_trans k2 hg3) k3
              refine ⟨F3.size, ⟨⟨w.heap.size, rfl, ⟨?_, ?_⟩, hg3 _ _ (k2 _ _ (by simp [g1])), ?_⟩, F3.defers⟩, F3.old, F3.base, F3.reg, F3.keys⟩
              · rw [hBn]; exact H.1.size
              · cases hbg : B.gh w.heap.size with
                | none => rfl
                | some x =>
                  have := (Array.getElem?_eq_some_iff.1 (H.1.ghost _ _ (F.old _ _ hbg))).1
                  omega
              · intro d' hd' he
                have : Marks B g a.defers := F.defers
                exact absurd he (marks_lt H.1 this d' hd')
            have H4 : ∀ st, lk hp' nx = some (.loop st) → st ≠ .busy → w3.heap[w.heap.size + 1]? = some (.loop (st.at rec')) ∧
                HeapN w0 ((nx, .dead) :: hp') nx' g2 loc2 (w3.putObj (w.heap.size + 1) (.loop { st.at rec' with state := .exhausted })) := by
              intro st hlk _
              obtain ⟨q1, _⟩ := k4.turn (st' := .ready) hlk hl2
              exact ⟨q1, HeapRel.set k4.1 hlk rfl hl2 rfl (by simp) (fun k hk => World.putObj_heap_other hk) ⟨rfl, rfl⟩ trivial, k4.2⟩
            unfold loopEnd at k1
            split at k1
            · rename_i hlk
              obtain ⟨q1, q2⟩ := H4 _ hlk (by simp)
              exact ⟨_, _, run_endLoop q1 (by simp [LSt.at]), e, _, _, g2, loc2, k1, Ghost.le_trans hle k2, Loc.le_trans hll k3, hM g2 (Ghost.le_refl _), q2⟩
            · rename_i hlk
              obtain ⟨q1, q2⟩ := H4 _ hlk (by simp)
              exact ⟨_, _, run_endLoop q1 (by simp [LSt.at]), wpIn_ret ⟨e, _, _, g2, loc2, k1, Ghost.le_trans hle k2, Loc.le_trans hll k3, hM g2 (Ghost.le_refl _), q2⟩⟩
            · rename_i hlk
              obtain ⟨q1, q2⟩ := H4 _ hlk (by simp)
              exact ⟨_, _, run_endLoop q1 (by simp [LSt.at]), wpIn_exit ⟨e, _, _, g2, loc2, k1, Ghost.le_trans hle k2, Loc.le_trans hll k3, hM g2 (Ghost.le_refl _), q2⟩⟩
            · rename_i hlk
              obtain ⟨q1, q2⟩ := H4 _ hlk (by simp)
              exact ⟨_, _, run_endLoop q1 (by simp [LSt.at]), wpIn_goto ⟨e, _, _, g2, loc2, k1, Ghost.le_trans hle k2, Loc.le_trans hll k3, hM g2 (Ghost.le_refl _), q2⟩⟩
            · exact k1.elim
        · exact h.elim
    | exit j => exact wpIn_exit ⟨e, hp, nx, g, loc, h, Ghost.le_refl g, Loc.le_refl loc, F, H⟩
    | ret => exact wpIn_ret ⟨e, hp, nx, g, loc, h, Ghost.le_refl g, Loc.le_refl loc, F, H⟩
    | _ => exact h.elim
end
end Go.Vm
