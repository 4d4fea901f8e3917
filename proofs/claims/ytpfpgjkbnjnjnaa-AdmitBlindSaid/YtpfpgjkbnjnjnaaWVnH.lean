/- The evaluator is right: code and functions. A function's account, out of what the evaluator has shown. From the form's reading of an argument to the evaluator's data. A law that gives true: its statement, out of the function's account. The account of a function that writes into a slice of its caller's. The account of a function that hands back a slice of its own. The account of a function that writes into the variable whose address it is given last. Functions that defer the call of a closure at their beginning. -/
import Derived.Test.YtpfpgjkbnjnjnaaWVmZ
import Derived.ScopeJumps
import Derived.ProofKit
noncomputable section
namespace Go.Vm
open Go
open Classical
set_option linter.unusedSimpArgs false

section
variable {P : Program} {c : Ctx} {w0 : Base}

/-- Where code may end. -/
def Ends (B : MB) (w0 : Base) (N : Nat) (K : Exit → Env → Hp → Nat → Prop) (g : Ghost) (loc : Loc) : Exit → Act → World → Prop := fun x a w =>
  ∃ e hp nx g' loc', K x e hp nx ∧ g.le g' ∧ loc.le loc' ∧ FRel B g' loc' N e [] a ∧ HeapN w0 hp nx g' loc' w

theorem Ends.mono {B : MB} {N : Nat} {K : Exit → Env → Hp → Nat → Prop} {g g' : Ghost} {loc loc' : Loc} (hg : g.le g') (hl : loc.le loc') {x : Exit} {a : Act} {w : World} (h : Ends B w0 N K g' loc' x a w) : Ends B w0 N K g loc x a w := by
  obtain ⟨e, hp, nx, g2, l2, h1, h2, h3, h4⟩ := h
  exact ⟨e, hp, nx, g2, l2, h1, Ghost.le_trans hg h2, Loc.le_trans hl h3, h4⟩

def resOne (tmps : Array Value) : ResultVar → Sem Value
  | .tmp t => pure (tmps.getD t undef)
  | .cell x t => asAddr (tmps.getD x undef) >>= fun ad => loadVar t ad

theorem results_eq (fn : Func) (tmps : Array Value) : results fn tmps = (fn.results.mapM (resOne tmps)) >>= fun vs => pure (if h : vs.size = 1 then vs[0] else .tuple vs) := by
  unfold results
  congr 2

/-- The results, one by one. -/
theorem resList_sound (hC : CtxOK P c) {B : MB} {g : Ghost} {loc : Loc} {N : Nat} {e : Env} {hp : Hp} {nx : Nat} {a : Act} {w : World} (F : FRel B g loc N e [] a) (H : HeapN w0 hp nx g loc w) : ∀ (rs : List ResultVar) (K : List HV → Prop), resList c e hp rs K →
    ∃ hs vs, K hs ∧ HVs g loc hs vs ∧ (rs.mapM (resOne a.tmps)).run P w = .ok vs w
  | [], K, h => ⟨[], [], h, by simp only [HVs], by simp⟩
  | r :: rs, K, h => by
    have one : oneRes c e hp r = .und ∨ ∃ v, ((resOne a.tmps) r).run P w = .ok v w ∧ HRel g loc (oneRes c e hp r) v := by
      cases r with
      | tmp t =>
        simp only [oneRes, resOne]
        cases hl : lk e t with
        | none => exact .inl rfl
        | some h => exact .inr ⟨_, by simp, F.base t h rfl hl⟩
      | cell x t =>
        simp only [oneRes]
        cases hv : vop c 0 (rho e [] []) hp 0 (.load t (.tmp x)) with
        | none => exact .inl rfl
        | some ef =>
          right
          have hkh : KeyHolds a.tmps [] := fun x hx => by simp at hx
          obtain ⟨v, h1, _, _, h2⟩ := s_loadV hC (fun x => rho_rel F hkh x) H.1 hv
          refine ⟨v, ?_, h2⟩
          simp only [Instr.loadAt, Instr.sureAddr, Act.eval] at h1
          show Sem.run P (asAddr (a.tmps.getD x undef) >>= fun ad => loadVar t ad) w = _
          rw [← h1]
          cases hx : a.tmps.getD x undef with
          | pointer o => 
            cases o with
            | some ad => rfl
            | none => rw [hx] at h1; simp [stuck] at h1
          | _ => rw [hx] at h1; simp [stuck] at h1
    have mk : oneRes c e hp r ≠ .und → (∀ l, oneRes c e hp r ≠ .tup l) → resList c e hp rs (fun l => K (oneRes c e hp r :: l)) → ∃ hs vs, K hs ∧ HVs g loc hs vs ∧ ((r :: rs).mapM (resOne a.tmps)).run P w = .ok vs w := by
      intro hu ht h'
      obtain ⟨v, h1, h2⟩ := one.resolve_left hu
      obtain ⟨hs, vs, k1, k2, k3⟩ := resList_sound hC F H rs _ h'
      refine ⟨_ :: hs, v :: vs, k1, ?_, ?_⟩
      · simp only [HVs]
        refine ⟨?_, k2⟩
        generalize oneRes c e hp r = hv at hu ht h2
        cases hv with
        | und => exact absurd rfl hu
        | tup l => exact absurd rfl (ht l)
        | _ => exact h2
      · rw [List.mapM_cons, Sem.run_bind]
        erw [h1]
        simp only [Result.andThen_ok, Sem.run_bind, k3, Sem.run_pure]
    rw [resList_cons, fHV_eq] at h
    split at h
    · exact h.elim
    · exact h.elim
    · rename_i hne1 hne2
      exact mk hne1 hne2 h

theorem retK_sound (hC : CtxOK P c) {B : MB} {g : Ghost} {loc : Loc} {N : Nat} {e : Env} {hp : Hp} {nx : Nat} {a : Act} {w : World} (F : FRel B g loc N e [] a) (H : HeapN w0 hp nx g loc w) {fn : Func} {K : HV → Prop} (h : retK c e hp fn.results.toList K) :
    ∃ hv v, (results fn a.tmps).run P w = .ok v w ∧ K hv ∧ HRel g loc hv v := by
  obtain ⟨hs, vs, h1, h2, h3⟩ := resList_sound hC F H _ _ h
  have hr : (results fn a.tmps).run P w = .ok (if h : vs.toArray.size = 1 then vs.toArray[0] else .tuple vs.toArray) w := by
    rw [results_eq, Sem.run_bind]
    rw [Array.mapM_eq_mapM_toList, Sem.run_map, h3]
    simp
  split at h1
  · rename_i hv
    refine ⟨hv, _, hr, ?_⟩
    · cases vs with
      | nil => simp [HVs] at h2
      | cons v vs =>
        simp only [HVs] at h2
        cases vs with
        | cons => simp [HVs] at h2
        | nil =>
          refine ⟨h1, ?_⟩
          simp only [List.size_toArray, List.length_cons, List.length_nil, Nat.zero_add, List.getElem_toArray, List.getElem_cons_zero, dite_true]
          obtain ⟨us, h4, h5⟩ := h2.1
          cases hv with
          | und => simp [HC] at h4
          | tup => simp [HC] at h4
          | _ => exact ⟨us, h4, h5⟩
  · rename_i hne
    have hlen := HVs_length h2
    have h9 : vs.length ≠ 1 := by
      intro e9
      rw [e9] at hlen
      cases hs with
      | nil => simp at hlen
      | cons x l =>
        cases l with
        | nil => exact hne x rfl
        | cons => simp at hlen
    refine ⟨.tup hs, _, hr, h1, vs, h2, ?_⟩
    rw [dif_neg (by simpa using h9)]

theorem argEnv_lk : ∀ {hs : List HV} {i t : Nat} {h : HV}, lk (argEnv hs i) t = some h → ∃ j, t = i + j ∧ hs[j]? = some h
  | [], _, _, _, hl => by simp [argEnv, lk] at hl
  | x :: hs, i, t, h, hl => by
    simp only [argEnv] at hl
    rw [lk_cons] at hl
    split at hl
    · rename_i e; subst e; exact ⟨0, rfl, by simpa using hl⟩
    · obtain ⟨j, h1, h2⟩ := argEnv_lk hl
      exact ⟨j + 1, by omega, by simpa using h2⟩

theorem FRel.args {B : MB} {g : Ghost} {loc : Loc} {hs : List HV} {vs : List Value} {N : Nat} (hT : B.tail = none) (hB : B.gh.le g) (hr : ∀ (i : Nat) h v, hs[i]? = some h → vs[i]? = some v → HRel g loc h v) (hlen : hs.length = vs.length) (hle : hs.length ≤ N) :
    FRel B g loc N (argEnv hs 0) [] { tmps := vs.toArray ++ Array.replicate (N - vs.toArray.size) undef, defers := [] } where
  size := by simp; omega
  defers := hT
  old := hB
  base := by
    intro t h _ hl
    obtain ⟨j, h1, h2⟩ := argEnv_lk hl
    have hj : j < hs.length := (List.getElem?_eq_some_iff.1 h2).1
    have hj' : j < vs.length := by omega
    have e : t = j := by omega
    subst e
    have h3 : (vs.toArray ++ Array.replicate (N - vs.toArray.size) undef).getD t undef = vs[t] := by
      simp [Array.getD_eq_getD_getElem?, Array.getElem?_append, hj']
    show HRel g loc h ((vs.toArray ++ Array.replicate (N - vs.toArray.size) undef).getD t undef)
    rw [h3]
    exact hr t h _ h2 (by simp [hj'])
  reg := fun t k h hl => by simp [lk] at hl
  keys := fun t k h hl => by simp [lk] at hl

/-- A mark's block is shut. -/
theorem HeapRel.shut {hp : Hp} {g : Ghost} {loc : Loc} {w : World} (H : HeapRel w0 hp g loc w) {b : Nat} (x o : Obj) (hb : g b = some x) (hx : ∀ cs T fr, x ≠ .cells cs T fr) (hw : w0.heap.size ≤ b) :
    HeapRel w0 hp (fun k => if k = b then none else g k) loc (w.putObj b o) where
  obj := by
    intro k vo h
    by_cases hl : vo.live = true
    · refine (H.obj k vo h).monoC (fun c cs T fr hc => ?_) (Loc.le_refl _) fun c y z h1 h2 h3 => ?_
      · by_cases e : c = b
        · subst e; rw [hb] at hc; simp only [Option.some.injEq] at hc; exact absurd hc (hx cs T fr)
        · simpa [e] using hc
      · rw [World.putObj_heap_other]
        · exact h3
        · intro e; subst e
          rw [H.sep k vo c y h hl h1 h2] at hb; cases hb
    · have hgc : g.leC (fun k => if k = b then none else g k) := fun c cs T fr hc => by
        by_cases e : c = b
        · subst e; rw [hb] at hc; simp only [Option.some.injEq] at hc; exact absurd hc (hx cs T fr)
        · simpa [e] using hc
      cases vo with
      | dead => trivial
      | froz s xs =>
        rcases H.obj k _ h with ⟨e1, e2⟩ | ⟨b2, cap, T, cs, e1, e2, e3, e4, e5⟩
        · exact .inl ⟨e1, e2⟩
        · exact .inr ⟨b2, cap, T, cs, e1, hgc _ _ _ _ e2, e3, e4, fun j hj => (e5 j hj).monoC hgc⟩
      | _ => simp [VO.live] at hl
  inj := H.inj
  ghost := by
    intro c y h
    by_cases e : c = b
    · simp [e] at h
    · rw [World.putObj_heap_other e]
      exact H.ghost c y (by simpa [e] using h)
  sep := by
    intro k vo c y h1 h2 h3 h4
    have := H.sep k vo c y h1 h2 h3 h4
    simp [this]
  low := H.low
  ext := by
    intro c hc hwr
    rw [World.putObj_heap_other (by omega)]; exact H.ext c hc hwr
  size := by simpa using H.size
  old := by
    intro c y h hlt hwr
    by_cases e : c = b
    · simp [e] at h
    · exact H.old c y (by simpa [e] using h) hlt hwr
  still := H.still

theorem Marks.drop {B : MB} {g : Ghost} {b : Nat} : ∀ {ds : List Deferred}, Marks B g ds → (∀ d' ∈ ds, d'.target ≠ .collected b) → Marks B (fun k => if k = b then none else g k) ds
  | [], h, _ => h
  | d :: ds, .inl h, _ => .inl h
  | d :: ds, .inr ⟨h0, ⟨k, h1, h2, h3, h4⟩, h⟩, hne => by
    refine .inr ⟨h0, ⟨k, h1, h2, ?_, h4⟩, Marks.drop h fun d' hd => hne d' (List.mem_cons_of_mem _ hd)⟩
    have : k ≠ b := fun e => hne d (by simp) (by rw [h1, e])
    simpa [this] using h3

/-- What is left when the marks are taken. -/
def MB.left (B : MB) : List Deferred := match B.tail with
  | none => []
  | some d => [d]
/-- On the way out the marks are taken. -/
theorem leave_tail {B : MB} {n N : Nat} {e : Env} {hp : Hp} {nx : Nat} {loc : Loc} {fn : Func} {R : Ending → World → Prop} (hB : w0.heap.size ≤ B.n)     {tmps : Array Value} : ∀ (ds : List Deferred) (g : Ghost) (w : World), FRel B g loc N e [] { tmps := tmps, defers := ds } → HeapN w0 hp nx g loc w →
    (∀ g' w', FRel B g' loc N e [] { tmps := tmps, defers := B.left } → HeapN w0 hp nx g' loc w' → LeavesInM Fence.wide n P fn tmps R B.left .returning w') →
    LeavesInM Fence.wide n P fn tmps R ds .returning w
  | [], g, w, F, H, k => by
    have e : B.left = [] := by
      have h : B.tail = none := F.defers
      rw [MB.left, h]
    rw [e] at k
    exact k g w F H
  | d :: ds, g, w, F, H, k => by
    rcases F.defers with ⟨h1, _, h2⟩ | ⟨h0, ⟨b, rfl, ⟨h2, h2'⟩, h3, h4⟩, hM⟩
    · have e : B.left = d :: ds := by rw [MB.left, h1, h2]
      rw [e] at k
      exact k g w F H
    refine ⟨by simp, .inl ⟨b, _, rfl, run_takeDeferred (H.1.ghost b _ h3), ?_⟩⟩
    have hc : g.leC (fun k => if k = b then none else g k) := by
      intro c cs T fr h
      by_cases e : c = b
      · subst e; rw [h3] at h; cases h
      · simpa [e] using h
    refine leave_tail hB ds _ _ ⟨F.size, Marks.drop hM h4, fun c x hx => ?_, fun t h k1 k2 => (F.base t h k1 k2).monoC hc (Loc.le_refl _), fun t k h hl => by simp [lk] at hl, fun t k h hl => by simp [lk] at hl⟩
      ⟨H.1.shut _ _ h3 (fun _ _ _ => by simp) (by omega), H.2⟩ k
    have : c ≠ b := fun e => by subst e; rw [h2'] at hx; cases hx
    simpa [this] using F.old c x hx
theorem leave_sound {B : MB} {n N : Nat} {e : Env} {hp : Hp} {nx : Nat} {loc : Loc} {fn : Func} {R : Ending → World → Prop} (hB : w0.heap.size ≤ B.n) (hT : B.tail = none) {tmps : Array Value} (ds : List Deferred) (g : Ghost) (w : World) (F : FRel B g loc N e [] { tmps := tmps, defers := ds }) (H : HeapN w0 hp nx g loc w)
    (k : ∀ g' w', FRel B g' loc N e [] { tmps := tmps, defers := [] } → HeapN w0 hp nx g' loc w' → ∃ v, (results fn tmps).run P w' = .ok v w' ∧ R (.returned v) w') :
    LeavesInM Fence.wide n P fn tmps R ds .returning w := by
  refine leave_tail hB ds g w F H fun g' w' F' H' => ?_
  have e : B.left = [] := by rw [MB.left, hT]
  rw [e] at F' ⊢
  obtain ⟨v, h1, h2⟩ := k g' w' F' H'
  exact ⟨v, h1, h2⟩

/-- A round of a loop over a function is right. -/
def HandOK (P : Program) (w0 : Base) (h : YH) (l : Nat) (g0 : Ghost) (loc0 : Loc) : Prop :=
  ∀ (hs : List HV) (hp : Hp) (nx : Nat) (K : HV → Hp → Nat → Prop) (g : Ghost) (loc : Loc) (w : World) (vs : List Value), h hs hp nx K → g0.le g → loc0.le loc → HeapN w0 hp nx g loc w →
    (∀ (i : Nat) h v, hs[i]? = some h → vs[i]? = some v → HRel g loc h v) → hs.length = vs.length →
    OpWp P (fun v w' => ∃ h hp' nx' g' loc', K h hp' nx' ∧ g.le g' ∧ loc.le loc' ∧ HeapN w0 hp' nx' g' loc' w' ∧ HRel g' loc' h v) ((Instr.yield l vs.toArray).run P w)
def YOK (P : Program) (w0 : Base) (ys : Ys) (g : Ghost) (loc : Loc) : Prop := ∀ o h, lk ys o = some h → ∃ l r, loc o = some (.loop l r) ∧ HandOK P w0 h l g loc
theorem YOK.mono {ys : Ys} {g g' : Ghost} {loc loc' : Loc} (hg : g.le g') (hl : loc.le loc') (h : YOK P w0 ys g loc) : YOK P w0 ys g' loc' := by
  intro o hh h1
  obtain ⟨l, r, h2, h3⟩ := h o hh h1
  exact ⟨l, r, hl _ _ h2, fun hs hp nx K g2 loc2 w vs k1 k2 k3 => h3 hs hp nx K g2 loc2 w vs k1 (Ghost.le_trans hg k2) (Loc.le_trans hl k3)⟩

/-- The fence of a function's own code, and of a round's. -/
def FOKB (inR : Bool) (F : Fence) : Prop := FOK F ∧ (inR = false → F = Fence.wide)

/-- What is known of the function's beginning: within a round marks may be barred. -/
def BOK (w0 : Base) (inR : Bool) (B : MB) : Prop := B.n = w0.heap.size ∧ (inR = false → B.mks = true)
/-- Code that is walked through. -/
def VcOK (P : Program) (w0 : Base) (ys : Ys) (inR : Bool) (vc : Nat → Code → Env → Hp → Nat → (Exit → Env → Hp → Nat → Prop) → Prop) : Prop :=
  ∀ (N : Nat) (code : Code) (e : Env) (hp : Hp) (nx : Nat) (K : Exit → Env → Hp → Nat → Prop), vc N code e hp nx K → ∀ (B : MB) (Fe : Fence) (fn : Nat), BOK w0 inR B → FOKB inR Fe → ∀ g loc a w, YOK P w0 ys g loc → FRel B g loc N e [] a → HeapN w0 hp nx g loc w → code.wpIn Fe fn P (Ends B w0 N K g loc) a w

theorem intoFun_sound (hC : CtxOK P c) {vc : Nat → Code → Env → Hp → Nat → (Exit → Env → Hp → Nat → Prop) → Prop} {ys : Ys} (hV : VcOK P w0 ys false vc) {f : Nat} {F : Func} (hf : P.funcs[f]? = some F) {hs : List HV} {hp : Hp} {nx : Nat} {K : HV → Hp → Nat → Prop} {g : Ghost} {loc : Loc} {w : World} {vs : List Value}
    (hY : YOK P w0 ys g loc) (h : intoFun c vc F hs hp nx K) (H : HeapN w0 hp nx g loc w) (hr : ∀ (i : Nat) h v, hs[i]? = some h → vs[i]? = some v → HRel g loc h v) (hlen : hs.length = vs.length) :
    Calls P f vs.toArray w fun e w' => ∃ v, e = .returned v ∧ ∃ h hp' nx' g' loc', K h hp' nx' ∧ g.le g' ∧ loc.le loc' ∧ HeapN w0 hp' nx' g' loc' w' ∧ HRel g' loc' h v := by
  unfold intoFun at h
  split at h
  · exact h.elim
  · rename_i b hb
    split at h
    · rename_i hle
      rw [argEnvK_eq] at h
      have hw := hV _ _ _ _ _ _ h ⟨w0.heap.size, g, true, none⟩ Fence.wide 0 ⟨rfl, fun _ => rfl⟩ ⟨.wide, fun _ => rfl⟩ g loc _ w hY (FRel.args rfl (Ghost.le_refl g) hr hlen (Nat.le_of_ble_eq_true hle)) H
      refine callsIn_wide.1 (callsIn_of_wp_marks (n := 0) hf hb trivial (wpIn_mono hw ?_))
      rintro x a w' ⟨e', hp', nx', g', loc', h1, h2, h3, h4, h5⟩
      have fin : retK c e' hp' F.results.toList (fun h => K h hp' nx') → LeavesInM Fence.wide 0 P F a.tmps (fun e w' => ∃ v, e = .returned v ∧ ∃ h hp' nx' g' loc', K h hp' nx' ∧ g.le g' ∧ loc.le loc' ∧ HeapN w0 hp' nx' g' loc' w' ∧ HRel g' loc' h v) a.defers .returning w' := by
        intro h1
        refine leave_sound (w0 := w0) (B := ⟨w0.heap.size, g, true, none⟩) (Nat.le_refl _) rfl a.defers g' w' h4 h5 fun g2 w2 k2 k3 => ?_
        obtain ⟨hv, v, m1, m2, m3⟩ := retK_sound hC k2 k3 h1
        exact ⟨v, m1, v, rfl, hv, hp', nx', g2, loc', m2, k2.old, h3, k3, m3⟩
      cases x with
      | normal => exact fin h1
      | ret => exact fin h1
      | _ => exact h1.elim
    · exact h.elim

theorem run_callFunc {f : Nat} {F : Func} (hf : P.funcs[f]? = some F) (hb : F.body.isSome = true) (hn : F.name ≠ "runtime.NumGoroutine") (vs : Array Value) (w : World) : (callFunc f vs).run P w = .ok (.enter f vs) w := by
  have h2 : F.body ≠ none := by cases hb' : F.body <;> simp_all
  simp [callFunc, hf, hn, h2]

theorem into_sound (hC : CtxOK P c) {ys : Ys} {vc : Nat → Code → Env → Hp → Nat → (Exit → Env → Hp → Nat → Prop) → Prop} (hV : VcOK P w0 ys false vc) {g0 : Ghost} {loc0 : Loc} (hY : YOK P w0 ys g0 loc0) : InlOK P w0 g0 loc0 (into c ys vc) := by
  intro k hs hp nx K g loc w vs r h hg0 hl0 H hr hlen hrun
  unfold into at h
  cases k with
  | fn f =>
    simp only at h
    split at h
    · exact h.elim
    · rename_i F hF
      obtain ⟨h1, h2, h3⟩ := hC.funs _ _ hF
      simp only [CalRun] at hrun
      rw [hrun, run_callFunc h1 h2 h3]
      exact intoFun_sound hC hV h1 (hY.mono hg0 hl0) h H hr hlen
  | yl o =>
    simp only at h
    split at h
    · exact h.elim
    · rename_i hh hlk
      obtain ⟨l, lr, h1, rfl⟩ := hrun
      obtain ⟨l', lr', h2, h3⟩ := hY _ _ hlk
      have := hl0 _ _ h2
      rw [h1] at this
      simp only [Option.some.injEq, Place.loop.injEq] at this
      obtain ⟨rfl, rfl⟩ := this
      exact h3 hs hp nx K g loc w vs h hg0 hl0 H hr hlen

theorem zipEnv_rel {g : Ghost} {loc : Loc} {N : Nat} : ∀ (ps : List Nat) (hs : List HV) (vs : List Value) (e : Env) (ts : Array Value), allBlt N ps = true → ts.size = N → (∀ t h, lk e t = some h → HRel g loc h (ts.getD t undef)) →
    (∀ (i : Nat) h v, hs[i]? = some h → vs[i]? = some v → HRel g loc h v) → hs.length = ps.length → vs.length = ps.length →
    ((ps.zip vs).foldl (fun t (p : Nat × Value) => t.setIfInBounds p.1 p.2) ts).size = N ∧ ∀ t h, lk (zipEnv ps hs e) t = some h → HRel g loc h (((ps.zip vs).foldl (fun t (p : Nat × Value) => t.setIfInBounds p.1 p.2) ts).getD t undef)
  | [], [], [], e, ts, _, hsz, he, _, _, _ => ⟨hsz, he⟩
  | p :: ps, h :: hs, v :: vs, e, ts, hb, hsz, he, hr, hl1, hl2 => by
    simp only [allBlt, Bool.and_eq_true] at hb
    simp only [zipEnv, List.zip_cons_cons, List.foldl_cons]
    refine zipEnv_rel ps hs vs ((p, h) :: e) (ts.setIfInBounds p v) hb.2 (by simpa using hsz) (fun t h' hlk => ?_) (fun i a b h1 h2 => hr (i + 1) a b (by simpa using h1) (by simpa using h2)) (by simpa using hl1) (by simpa using hl2)
    rw [lk_cons] at hlk
    split at hlk
    · rename_i ee; subst ee
      simp only [Option.some.injEq] at hlk; subst hlk
      rw [getD_set_same _ _ _ (by rw [hsz]; exact nat_blt hb.1)]
      exact hr 0 h v rfl rfl
    · rename_i hne
      rw [getD_set_ne' _ _ _ _ (Ne.symm hne)]
      exact he t h' hlk
  | [], _ :: _, _, _, _, _, _, _, _, h, _ => by simp at h
  | _ :: _, [], _, _, _, _, _, _, _, h, _ => by simp at h
  | [], [], _ :: _, _, _, _, _, _, _, _, h => by simp at h
  | _ :: _, _ :: _, [], _, _, _, _, _, _, _, h => by simp at h

/-- The record of a loop turns. -/
theorem HeapN.turn {hp : Hp} {nx : Nat} {g : Ghost} {loc : Loc} {w : World} (H : HeapN w0 hp nx g loc w) {o l : Nat} {r : Go.Loop} {st st' : LSt} (ho : lk hp o = some (.loop st)) (hl : loc o = some (.loop l r)) :
    w.heap[l]? = some (.loop (st.at r)) ∧ HeapN w0 ((o, .loop st') :: hp) nx g loc (w.putObj l (.loop (st'.at r))) := by
  obtain ⟨b, r', h1, h2⟩ := H.1.obj o _ ho
  rw [hl] at h1
  simp only [Option.some.injEq, Place.loop.injEq] at h1
  obtain ⟨rfl, rfl⟩ := h1
  have hlt : l < w.heap.size := (Array.getElem?_eq_some_iff.1 h2).1
  refine ⟨h2, HeapRel.set H.1 ho rfl hl rfl (by simp) (fun k hk => World.putObj_heap_other hk) ⟨rfl, rfl⟩ ⟨l, r, hl, World.putObj_heap_same hlt⟩, H.2⟩

theorem HeapN.kill {hp : Hp} {nx : Nat} {g : Ghost} {loc : Loc} {w : World} (H : HeapN w0 hp nx g loc w) (o : Nat) : HeapN w0 ((o, .dead) :: hp) nx g loc w := ⟨H.1.kill o, H.2⟩

/-- **A round.** -/
theorem roundK_sound {vc : Nat → Code → Env → Hp → Nat → (Exit → Env → Hp → Nat → Prop) → Prop} {ys : Ys} (hV : VcOK P w0 ys true vc) {B : MB} {N : Nat} {e : Env} {o l : Nat} {ps : Array Nat} {assign body : Code} {r : Go.Loop} {a : Act} {g0 : Ghost} {loc0 : Loc}
    (hr : r.params = ps ∧ r.assign = assign ∧ r.body = body ∧ r.tmps = a.tmps) (hps : allBlt N ps.toList = true) (hBn : B.n = w0.heap.size) (F : FRel B g0 loc0 N e [] a) (hY : YOK P w0 ys g0 loc0) (hl : loc0 o = some (.loop l r)) :
    HandOK P w0 (roundK vc N e o ps.toList assign body) l g0 loc0 := by
  intro hs hp nx Kh g loc w vs h hg0 hl0 H hrel hlen
  unfold roundK at h
  split at h
  · rename_i hpl hlk
    rw [zipEnvK_eq] at h
    have hpl' : hs.length = ps.toList.length := Nat.eq_of_beq_eq_true hpl
    have hlo := hl0 _ _ hl
    obtain ⟨hrp, hra, hrb, hrt⟩ := hr
    obtain ⟨h2, _⟩ := H.turn (st' := .ready) hlk hlo
    have hvl : vs.length = ps.toList.length := by omega
    have hy := run_yield (P := P) (args := vs.toArray) h2 (by simp only [LSt.at, hrp, List.size_toArray]; simpa using hvl)
    rw [hy]
    intro n
    have hz := zipEnv_rel (g := g) (loc := loc) ps.toList hs vs e a.tmps hps F.size (fun t h hk => (F.base t h rfl hk).mono hg0 hl0) hrel hpl' hvl
    have ht : ((LSt.ready.at r).params.zip vs.toArray).foldl (fun tmps (x : Nat × Value) => tmps.setIfInBounds x.1 x.2) (LSt.ready.at r).tmps = (ps.toList.zip vs).foldl (fun t (p : Nat × Value) => t.setIfInBounds p.1 p.2) a.tmps := by
      simp only [LSt.at, hrp, hrt]
      rw [← Array.foldl_toList]
      simp
    refine roundIn_of_wpIn trivial ?_
    have e0 : (LSt.ready.at r).assign = assign := hra
    have e1 : (LSt.ready.at r).body = body := hrb
    rw [e0, e1]
    let B' : MB := ⟨B.n, B.gh, true, none⟩
    have hFr : FRel B' g loc N (zipEnv ps.toList hs e) [] { tmps := ((LSt.ready.at r).params.zip vs.toArray).foldl (fun tmps (x : Nat × Value) => tmps.setIfInBounds x.1 x.2) (LSt.ready.at r).tmps, defers := [] } := by
      refine ⟨?_, rfl, Ghost.le_trans F.old hg0, fun t h _ hk => ?_, fun t k h hl => by simp [lk] at hl, fun t k h hl => by simp [lk] at hl⟩
      · simp only [ht]; exact hz.1
      · simp only [ht]; exact hz.2 t h hk
    refine wpIn_mono (hV N assign _ hp nx _ h B' (Fence.wide.inRound l) n ⟨hBn, fun h => by cases h⟩ ⟨.round l, fun h => by cases h⟩ g loc _ w (hY.mono hg0 hl0) hFr H) ?_
    rintro x a' w' ⟨e', hp', nx', g', loc', h1, h3, h4, h5, h6⟩
    cases x with
    | normal =>
      simp only at h1
      split at h1
      · rename_i hlk'
        obtain ⟨m1, m2⟩ := h6.turn (st' := .busy) hlk' (h4 _ _ hlo)
        refine ⟨_, run_beginRound m1 rfl, ?_⟩
        refine wpIn_mono (hV N body e' _ nx' _ h1 B' (Fence.wide.inRound l) n ⟨hBn, fun h => by cases h⟩ ⟨.round l, fun h => by cases h⟩ g' loc' a' _ ((hY.mono hg0 hl0).mono h3 h4) h5 m2) ?_
        rintro x2 a2 w2 ⟨e2, hp2, nx2, g2, loc2, k1, k2, k3, k4, k5⟩
        unfold roundEnd at k1
        split at k1
        · rename_i hlk2
          have hl2 := k3 _ _ (h4 _ _ hlo)
          have fin : ∀ (st' : LSt) (jump : Option Code), (st'.at r) = { LSt.busy.at r with state := if jump.isNone then .ready else .done, pending := jump } → Kh (.dat .bool (.B jump.isNone)) ((o, .loop st') :: hp2) nx2 →
              ∃ v w', (Instr.endRound l jump).run P w2 = .ok v w' ∧ ∃ v', Ending.returned v = .returned v' ∧ ∃ h hp' nx' g' loc', Kh h hp' nx' ∧ g.le g' ∧ loc.le loc' ∧ HeapN w0 hp' nx' g' loc' w' ∧ HRel g' loc' h v' := by
            intro st' jump he hk
            obtain ⟨q1, q2⟩ := k5.turn (st' := st') hlk2 hl2
            refine ⟨_, _, run_endRound jump q1, _, rfl, _, _, _, g2, loc2, hk, Ghost.le_trans h3 k2, Loc.le_trans h4 k3, ?_, HRel.bool_mk⟩
            rw [← he]; exact q2
          cases x2 with
          | normal => exact fin .ready none rfl k1
          | ret => exact fin (.done .ret) (some .ret) rfl k1
          | exit j => exact fin (.done (.exit j)) (some (.exit j)) rfl k1
          | goto t => exact fin (.done (.goto t)) (some (.goto t)) rfl k1
          | _ => exact k1.elim
        · exact k1.elim
      · exact h1.elim
    | _ => exact h1.elim
  · exact h.elim

theorem marks_lt {B : MB} {hp : Hp} {g : Ghost} {loc : Loc} {w : World} (H : HeapRel w0 hp g loc w) : ∀ {ds : List Deferred}, Marks B g ds → ∀ d ∈ ds, d.target ≠ .collected w.heap.size
  | [], _, d, hd => by cases hd
  | d0 :: ds, .inl ⟨_, h1, h2⟩, d, hd => by
    subst h2
    rcases List.mem_cons.1 hd with rfl | hd
    · exact h1 _
    · cases hd
  | d0 :: ds, .inr ⟨_, ⟨k, h1, _, h3, _⟩, h⟩, d, hd => by
    rcases List.mem_cons.1 hd with rfl | hd
    · rw [h1]
      intro e
      simp only [Target.collected.injEq] at e
      have := (Array.getElem?_eq_some_iff.1 (H.ghost _ _ h3)).1
      omega
    · exact marks_lt H h d hd

theorem alloc_deferred_ghost {hp : Hp} {nx : Nat} {g : Ghost} {loc : Loc} {w : World} (H : HeapN w0 hp nx g loc w) :
    g.le (fun b => if b = w.heap.size then some (.deferred (some [])) else g b) ∧ HeapRel w0 hp (fun b => if b = w.heap.size then some (.deferred (some [])) else g b) loc (w.alloc (.deferred (some []))) := by
  have hno : ∀ x, g w.heap.size ≠ some x := fun x hx => by
    have := (Array.getElem?_eq_some_iff.1 (H.1.ghost _ _ hx)).1
    omega
  have hle : g.le (fun b => if b = w.heap.size then some (.deferred (some [])) else g b) := by
    intro b x hx
    have : b ≠ w.heap.size := fun e => by subst e; exact hno x hx
    simpa [this] using hx
  refine ⟨hle, H.1.grown (ExtAll.alloc _ _) hle (fun b x hx => ?_) (fun b x hx => ?_)⟩
  · by_cases e : b = w.heap.size
    · exact .inr (by omega)
    · exact .inl (by simpa [e] using hx)
  · by_cases e : b = w.heap.size
    · subst e
      simp only [if_true, Option.some.injEq] at hx
      subst hx
      exact heap_alloc_new _ _
    · exact (ExtAll.alloc w _).get (H.1.ghost b x (by simpa [e] using hx))

theorem exists_least {p : Nat → Prop} : ∀ n, p n → ∃ n, p n ∧ ∀ m, p m → n ≤ m := by
  intro n
  induction n using Nat.strongRecOn with
  | _ n ih =>
    intro hn
    by_cases h : ∃ m, m < n ∧ p m
    · obtain ⟨m, hm, hp⟩ := h
      exact ih m hm hp
    · exact ⟨n, hn, fun m hm => by
        apply Classical.byContradiction; intro hlt
        exact h ⟨m, by omega, hm⟩⟩
open Classical in
noncomputable def leastN (p : Nat → Prop) : Nat := if h : ∃ n, p n ∧ ∀ m, p m → n ≤ m then Classical.choose h else 0
theorem leastN_spec {p : Nat → Prop} (h : ∃ n, p n) : p (leastN p) := by
  obtain ⟨n, hn⟩ := h
  have h := exists_least n hn
  unfold leastN
  rw [dif_pos h]
  exact (Classical.choose_spec h).1
theorem leastN_le {p : Nat → Prop} {n : Nat} (hn : p n) : leastN p ≤ n := by
  have h := exists_least n hn
  unfold leastN
  rw [dif_pos h]
  exact (Classical.choose_spec h).2 n hn

theorem vcCode_sound (hC : CtxOK P c) (hm : P.follows .mixedOrders = true) : ∀ (fu : Nat) (ys : Ys) (inR : Bool), VcOK P w0 ys inR (vcCode c fu ys inR)
  | 0, ys, inR, N, code, e, hp, nx, K, h => h.elim
  | fu + 1, ys, inR, N, code, e, hp, nx, K, h => by
    have ih := vcCode_sound hC hm fu ys inR
    have ihf := vcCode_sound hC hm fu
    intro B Fe fn hBn hFo g loc a w hY F H
    cases code with
    | skip => exact wpIn_skip ⟨e, hp, nx, g, loc, h, Ghost.le_refl g, Loc.le_refl loc, F, H⟩
    | region id ops draw =>
      rw [vcCode_succ] at h
      simp only [vcStep] at h
      cases draw with
      | false =>
        simp only at h
        refine wpIn_region_list ?_
        have e1 : ops = ops.toList.toArray := by simp
        have := vcOps_sound (B := B) hFo.1 (fn := fn) hC (into_sound hC (ihf ys false) hY) (Q := Ends B w0 N K g loc) ops.toList [] hp nx g loc a w h (Ghost.le_refl g) (Loc.le_refl loc) ⟨F.size, F.defers, F.old, F.base, fun t k h hl => by simp [lk] at hl, fun t k h hl => by simp [lk] at hl⟩ H ?_
        · rw [← e1] at this; exact this
        · intro re hp' nx' g' loc' a' w' hk hg hl F' H'
          obtain ⟨e2, hk2, F2⟩ := mergeC_rel F' hk
          exact ⟨e2, _, _, g', loc', hk2, hg, hl, F2, H'⟩
      | true =>
        simp only at h
        split at h
        · refine wpIn_region_any hm ?_
          let R0 : Nat → Rec := fun _ => ⟨none, [], .und, [], [], []⟩
          obtain ⟨R, hf, hK⟩ := vcDraw_facts ops.toList 0 [] R0 (by simp) (fun j hj => absurd hj (Nat.not_lt_zero j)) (fun j hj => absurd hj (Nat.not_lt_zero j)) (fun x hx => by simp at hx) (vcDrawF_draw _ _ _ _ _ (by simp) h).2
          have hrep : ∀ j, (Array.replicate ops.size false).getD j false = false := fun j => by
            rw [Array.getD_eq_getD_getElem?, Array.getElem?_replicate]; split <;> rfl
          have e0 : ∀ (L : Nat → Bool), (∀ j, L j = false) → ∀ n, reAt R L n = [] ∧ rhAt R L n = [] := by
            intro L hL n
            induction n with
            | zero => exact ⟨rfl, rfl⟩
            | succ n ihn =>
              have hn : ¬ L n = true := by rw [hL n]; simp
              simp only [reAt, rhAt, if_neg hn]; exact ihn
          have hall := draw_any (B := B) (P := P) (w0 := w0) hFo.1 (fn := fn) hC hf (Q := Ends B w0 N K g loc) (g0 := g) (loc0 := loc) ?_ ops.toList.length (Array.replicate ops.size false) a { w with drawn := w.drawn + 1 } g loc (by simp) ?_ (Ghost.le_refl g) (Loc.le_refl loc) ?_
          · have e1 : ops = ops.toList.toArray := by simp
            rw [← e1, ← Array.length_toList] at *
            exact hall
          · intro g' loc' a' w' hg hl D
            obtain ⟨e2, hK2, F2⟩ := mergeC_rel D.F hK
            rw [mergeHK_eq] at hK2
            refine ⟨e2, _, _, g', loc', hK2, hg, hl, F2, mergeH_rel D.H, ?_⟩
            intro o ho
            exact D.fresh o (by omega) fun i hi _ => by omega
          · rw [List.filter_eq_self.2 (fun j _ => by rw [hrep j]; rfl)]; simp
          · refine ⟨?_, ?_, ?_, ?_⟩
            · rw [(e0 _ hrep _).1]; exact F
            · rw [(e0 _ hrep _).2]; exact H.1.drew
            · intro o ho _; exact H.2 o ho
            · intro j oj _ hj; simp only [hrep] at hj; cases hj
        · refine wpIn_region_any hm ?_
          have hrep : ∀ j, (Array.replicate ops.size false).getD j false = false := fun j => by
            rw [Array.getD_eq_getD_getElem?, Array.getElem?_replicate]; split <;> rfl
          obtain ⟨re0, hp0, nx0, _, ⟨hb, hany⟩, hK⟩ := h
          have hall := any_sound (B := B) (P := P) (w0 := w0) hFo.1 (fn := fn) hC (into_sound hC (ihf ys false) hY) hb (Q := Ends B w0 N K g loc) ops.toList.length (Array.replicate ops.size false) [] [] hp nx a { w with drawn := w.drawn + 1 } g loc (by simp) ?_ (fun j _ => by rw [hrep j]; simp) hany (Ghost.le_refl g) (Loc.le_refl loc)
            ⟨F.size, F.defers, F.old, F.base, fun t k h hl => by simp [lk] at hl, fun t k h hl => by simp [lk] at hl⟩ ⟨H.1.drew, H.2⟩ ?_
          · have e1 : ops = ops.toList.toArray := by simp
            rw [← e1, ← Array.length_toList] at *
            exact hall
          · rw [List.filter_eq_self.2 (fun j _ => by rw [hrep j]; rfl)]; simp
          · rintro re hp' nx' g' loc' a' w' ⟨⟨rfl, h2, h3⟩, h4, h5⟩ hg hl F' H'
            have F0 := FRel.congr (re' := re0) (same_lk h2 h3) F'
            have H0 : HeapN w0 hp0 nx' g' loc' w' := ⟨HeapRel.congr (same_lk h4 h5) H'.1, H'.2⟩
            obtain ⟨e2, hk2, F2⟩ := mergeC_rel F0 hK
            exact ⟨e2, _, _, g', loc', hk2, hg, hl, F2, H0⟩
    | seq x y =>
      rw [vcCode_succ] at h
      simp only [vcStep] at h
      split at h
      · obtain ⟨X, m, mk', h, hrest0⟩ := h
        have hrest := fun x => ((fEnv_eq _ _).mp (hrest0 x))
        simp only [fHp_eq] at hrest
        refine wpIn_seq (wpIn_mono (ih N x e hp nx _ h B Fe fn hBn hFo g loc a w hY F H) ?_)
        rintro ex a' w' ⟨e', hp', nx', g', loc', h1, h2, h3, h4, h5⟩
        cases ex with
        | normal =>
          obtain ⟨x', hc⟩ := h1
          obtain ⟨g3, loc3, hg3, hl3, F3, H3⟩ := covers_rel hc h4 h5
          have hl : loc.le loc3 := fun o y ho => by
            have hlt : o < nx := by
              apply Classical.byContradiction; intro hn
              rw [H.2 o (by omega)] at ho; cases ho
            rw [hl3 o hlt]; exact h3 _ _ ho
          have hg : g.le g3 := Ghost.le_trans h2 hg3
          exact wpIn_mono (ih N y _ _ _ K (hrest x') B Fe fn hBn hFo g3 loc3 a' w' (hY.mono hg hl) F3 H3) fun _ _ _ q => q.mono hg hl
        | _ => exact ⟨e', hp', nx', g', loc', h1, h2, h3, h4, h5⟩
      · refine wpIn_seq (wpIn_mono (ih N x e hp nx _ h B Fe fn hBn hFo g loc a w hY F H) ?_)
        rintro ex a' w' ⟨e', hp', nx', g', loc', h1, h2, h3, h4, h5⟩
        cases ex with
        | normal => exact wpIn_mono (ih N y e' hp' nx' K h1 B Fe fn hBn hFo g' loc' a' w' (hY.mono h2 h3) h4 h5) fun _ _ _ q => q.mono h2 h3
        | _ => exact ⟨e', hp', nx', g', loc', h1, h2, h3, h4, h5⟩
    | cond x y z =>
      rw [vcCode_succ] at h
      simp only [vcStep] at h
      split at h
      · rename_i d hd
        have hc := (hd ▸ rho_rel F (fun x hx => by simp at hx) x).bool
        exact wpIn_cond_split hc (fun ht => ih N y e hp nx K (h.1 ht) B Fe fn hBn hFo g loc a w hY F H) (fun ht => ih N z e hp nx K (h.2 ht) B Fe fn hBn hFo g loc a w hY F H)
      · exact h.elim
    | block id b =>
      rw [vcCode_succ] at h
      simp only [vcStep] at h
      refine wpIn_block (wpIn_mono (ih N b e hp nx _ h B Fe fn hBn hFo g loc a w hY F H) ?_)
      rintro ex a' w' ⟨e', hp', nx', g', loc', h1, h2, h3, h4, h5⟩
      cases ex with
      | exit j =>
        simp only [Exit.inBlock]
        simp only at h1
        split at h1
        · rename_i hj
          rw [if_pos (Nat.eq_of_beq_eq_true hj)]
          exact ⟨e', hp', nx', g', loc', h1, h2, h3, h4, h5⟩
        · rename_i hj
          rw [if_neg (fun e => by subst e; simp at hj)]
          exact ⟨e', hp', nx', g', loc', h1, h2, h3, h4, h5⟩
      | _ => exact ⟨e', hp', nx', g', loc', h1, h2, h3, h4, h5⟩
    | loop b =>
      rw [vcCode_succ] at h
      simp only [vcStep] at h
      obtain ⟨X, m, mk', μ, x0, hc, hround0⟩ := h
      have hround := fun x => ((fEnv_eq _ _).mp (hround0 x))
      simp only [fHp_eq] at hround
      let mk : X → ST := fun x => ((mk' x).1, (mk' x).2, m)
      have agree : ∀ loc', (∀ o, o < nx → loc' o = loc o) → loc.le loc' := fun loc' hl o x ho => by
        by_cases hlt : o < nx
        · rw [hl o hlt]; exact ho
        · rw [H.2 o (by omega)] at ho; cases ho
      obtain ⟨gc, loc1, hgc, hl1, F1, H1⟩ := covers_rel hc F H
      refine wpIn_loop_ghost (fun n a w => ∃ x g' loc', μ x = n ∧ g.le g' ∧ loc.le loc' ∧ FRel B g' loc' N (mk x).1 [] a ∧ HeapN w0 (mk x).2.1 (mk x).2.2 g' loc' w) (μ x0) ⟨x0, gc, loc1, rfl, hgc, agree _ hl1, F1, H1⟩ ?_
      rintro n a' w' ⟨x, g', loc', rfl, hg, hl, F', H'⟩
      refine wpIn_mono (ih N b _ _ _ _ (hround x) B Fe fn hBn hFo g' loc' a' w' (hY.mono hg hl) F' H') ?_
      rintro ex a2 w2 ⟨e2, hp2, nx2, g2, loc2, k1, k2, k3, k4, k5⟩
      cases ex with
      | normal =>
        obtain ⟨x', hc', hlt⟩ := k1
        obtain ⟨g3, loc3, hg3, hl3, F3, H3⟩ := covers_rel hc' k4 k5
        refine ⟨μ x', hlt, x', g3, loc3, rfl, Ghost.le_trans (Ghost.le_trans hg k2) hg3, ?_, F3, H3⟩
        intro o y ho
        have hlt : o < nx := by
          apply Classical.byContradiction; intro hn
          rw [H.2 o (by omega)] at ho; cases ho
        rw [hl3 o hlt]; exact k3 _ _ (hl _ _ ho)
      | _ => exact ⟨e2, hp2, nx2, g2, loc2, k1, Ghost.le_trans hg k2, Loc.le_trans hl k3, k4, k5⟩
    | label l =>
      rw [vcCode_succ] at h
      simp only [vcStep] at h
      exact wpIn_label ⟨e, hp, nx, g, loc, h, Ghost.le_refl g, Loc.le_refl loc, F, H⟩
    | goto l =>
      rw [vcCode_succ] at h
      simp only [vcStep] at h
      exact wpIn_goto ⟨e, hp, nx, g, loc, h, Ghost.le_refl g, Loc.le_refl loc, F, H⟩
    | scope b =>
      rw [vcCode_succ] at h
      simp only [vcStep] at h
      cases inR with
      | true => exact h.elim
      | false =>
        simp only at h
        have hw := hFo.2 rfl
        subst hw
        obtain ⟨l, X, m, mk', μ, h1, h2⟩ := h
        refine wpIn_wide.2 ?_
        have hfirst := ih N b e hp nx _ h1 B Fence.wide fn hBn hFo g loc a w hY F H
        split at h2
        · refine wp_scope_straight (wpIn_wide.1 (wpIn_mono hfirst ?_))
          rintro ex a' w' ⟨e', hp', nx', g', loc', k1, k2, k3, k4, k5⟩
          cases ex with
          | goto l' => obtain ⟨_, x', _⟩ := k1; exact (h2 x').elim
          | _ => exact ⟨e', hp', nx', g', loc', k1, k2, k3, k4, k5⟩
        · rename_i rest hf
          have hround := fun x => ((fEnv_eq _ _).mp (h2 x))
          simp only [fHp_eq] at hround
          let mk : X → ST := fun x => ((mk' x).1, (mk' x).2, m)
          have agree : ∀ loc', (∀ o, o < nx → loc' o = loc o) → loc.le loc' := fun loc' hl o x ho => by
            by_cases hlt : o < nx
            · rw [hl o hlt]; exact ho
            · rw [H.2 o (by omega)] at ho; cases ho
          have again : ∀ (loc2 loc3 : Loc), loc.le loc2 → (∀ o, o < nx → loc3 o = loc2 o) → loc.le loc3 := fun loc2 loc3 hl h3 o y ho => by
            have hlt : o < nx := by
              apply Classical.byContradiction; intro hn
              rw [H.2 o (by omega)] at ho; cases ho
            rw [h3 o hlt]; exact hl _ _ ho
          let Jn : Nat → Act → World → Prop := fun n a w => ∃ x g' loc', μ x = n ∧ g.le g' ∧ loc.le loc' ∧ FRel B g' loc' N (mk x).1 [] a ∧ HeapN w0 (mk x).2.1 (mk x).2.2 g' loc' w
          let μ' : Act → World → Nat := fun a w => leastN fun n => Jn n a w
          refine wp_scope_jumps l (fun a w => ∃ n, Jn n a w) μ' hf (wpIn_wide.1 (wpIn_mono hfirst ?_)) ?_
          · rintro ex a' w' ⟨e', hp', nx', g', loc', k1, k2, k3, k4, k5⟩
            cases ex with
            | goto l' =>
              obtain ⟨rfl, x', hc⟩ := k1
              obtain ⟨g3, loc3, hg3, hl3, F3, H3⟩ := covers_rel hc k4 k5
              exact ⟨rfl, μ x', x', g3, loc3, rfl, Ghost.le_trans k2 hg3, again loc' loc3 k3 hl3, F3, H3⟩
            | _ => exact ⟨e', hp', nx', g', loc', k1, k2, k3, k4, k5⟩
          · intro a1 w1 hJ
            obtain ⟨x, g1, loc1, hx, hg1, hl1, F1, H1⟩ := leastN_spec hJ
            refine wpIn_wide.1 (wpIn_mono (ih N rest _ _ _ _ (hround x) B Fence.wide fn hBn hFo g1 loc1 a1 w1 (hY.mono hg1 hl1) F1 H1) ?_)
            rintro ex a' w' ⟨e', hp', nx', g', loc', k1, k2, k3, k4, k5⟩
            cases ex with
            | goto l' =>
              obtain ⟨rfl, x', hc, hlt⟩ := k1
              obtain ⟨g3, loc3, hg3, hl3, F3, H3⟩ := covers_rel hc k4 k5
              have hn : Jn (μ x') a' w' := ⟨x', g3, loc3, rfl, Ghost.le_trans (Ghost.le_trans hg1 k2) hg3, again loc' loc3 (Loc.le_trans hl1 k3) hl3, F3, H3⟩
              refine ⟨rfl, ⟨_, hn⟩, ?_⟩
              have := leastN_le (p := fun n => Jn n a' w') hn
              show leastN _ < leastN _
              rw [← hx]
              exact Nat.lt_of_le_of_lt this hlt
            | _ => exact ⟨e', hp', nx', g', loc', k1, Ghost.le_trans hg1 k2, Loc.le_trans hl1 k3, k4, k5⟩
    | rangeFunc g' ps assign body =>
      rw [vcCode_succ] at h
      simp only [vcStep] at h
      split at h
      · exact h.elim
      · rename_i hb
        simp only [Bool.or_eq_false_iff, Bool.not_eq_false'] at hb
        obtain ⟨rfl, hps⟩ := hb
        have hw := hFo.2 rfl
        subst hw
        split at h
        · rename_i f caps hrg
          split at h
          · exact h.elim
          rename_i hbn
          obtain ⟨hle, H1⟩ := alloc_deferred_ghost H
          refine wpIn_rangeFunc fun fn' _ => ?_
          have hfv := hrg ▸ rho_rel F (fun x hx => by simp at hx) g'
          obtain ⟨us, h1, h2⟩ := hfv
          simp only [HC] at h1
          obtain ⟨cs, h3, rfl⟩ := h1
          simp only [HV.agg, mkV, List.headD_cons] at h2
          rw [fnV_f hbn] at h2
          let rec' : Go.Loop := { state := .ready, pending := none, fn := fn', tmps := a.tmps, params := ps, assign := assign, body := body, defers := w.heap.size }
          let g1 : Ghost := fun b => if b = w.heap.size then some (.deferred (some [])) else g b
          let loc1 := loc.upd nx (.loop (w.heap.size + 1) rec')
          let w1 := (w.alloc (.deferred (some []))).alloc (.loop rec')
          have hnx := H.2 nx (Nat.le_refl _)
          have hll : loc.le loc1 := Loc.le_upd hnx
          have hlo : loc1 nx = some (.loop (w.heap.size + 1) rec') := Loc.upd_same
          have H2 : HeapN w0 ((nx, .loop .ready) :: hp) (nx + 1) g1 loc1 w1 := by
            refine ⟨H1.new hnx (ExtAll.alloc _ _) _ _ (fun b hb => ?_) ⟨w.heap.size + 1, rec', Loc.upd_same, ?_⟩, fun o ho => ?_⟩
            · simp only [Place.blk, Option.some.injEq] at hb; subst hb; simp
            · have := heap_alloc_new (w.alloc (.deferred (some []))) (.loop rec')
              rw [World.size_alloc] at this
              exact this
            · show loc.upd nx _ o = none
              rw [Loc.upd_other (by omega)]; exact H.2 o (by omega)
          have F1 : FRel B g1 loc1 N e [] a := F.mono hle hll
          have hY1 : YOK P w0 ys g1 loc1 := hY.mono hle hll
          have hand := roundK_sound (ihf ys true) (assign := assign) (body := body) (ps := ps) (r := rec') (o := nx) ⟨rfl, rfl, rfl, rfl⟩ hps hBn.1 F1 hY1 hlo
          have hY2 : YOK P w0 ((nx, roundK (vcCode c fu ys true) N e nx ps.toList assign body) :: ys) g1 loc1 := by
            intro o hh hlk
            rw [lk_cons] at hlk
            split at hlk
            · rename_i ee; subst ee
              simp only [Option.some.injEq] at hlk; subst hlk
              exact ⟨_, _, hlo, hand⟩
            · exact hY1 o hh hlk
          have hargs : ∀ (i : Nat) h v, (HV.yld nx :: caps)[i]? = some h → (Value.func (.yield (w.heap.size + 1)) #[] #[] :: cs)[i]? = some v → HRel g1 loc1 h v := by
            intro i hh v k1 k2
            cases i with
            | zero =>
              simp only [List.getElem?_cons_zero, Option.some.injEq] at k1 k2
              subst k1; subst k2
              exact ⟨[.func (.yield (w.heap.size + 1)) #[] #[]], by simp only [HC]; exact ⟨_, _, hlo, rfl⟩, rfl⟩
            | succ i =>
              simp only [List.getElem?_cons_succ] at k1 k2
              obtain ⟨v', h6, h7⟩ := HVs_get (h3.mono hle hll) k1
              rw [h6] at k2
              simp only [Option.some.injEq] at k2; subst k2; exact h7
          have hinto := into_sound hC (ihf _ false) hY2 (.fn f) _ _ _ _ g1 loc1 w1 (Value.func (.yield (w.heap.size + 1)) #[] #[] :: cs) _ h (Ghost.le_refl _) (Loc.le_refl _) H2 hargs (by simp [HVs_length h3]) rfl
          have hF : ∃ Fn, lk c.funs f = some Fn := by
            unfold into at h
            simp only at h
            split at h
            · exact h.elim
            · exact ⟨_, by assumption⟩
          obtain ⟨Fn, hFn⟩ := hF
          obtain ⟨q1, q2, q3⟩ := hC.funs _ _ hFn
          rw [run_callFunc q1 q2 q3] at hinto
          simp only [OpWp] at hinto
          refine ⟨w.heap.size + 1, [{ target := .collected w.heap.size, args := #[] }], w1, { target := .fn (.func f) cs.toArray, args := #[.func (.yield (w.heap.size + 1)) #[] #[]] }, w1, f, (Value.func (.yield (w.heap.size + 1)) #[] #[] :: cs).toArray, w1, ?_, ?_, ?_, ?_, ?_, ?_⟩
          · exact run_enterLoop_outer _ _ _ _ _
          · simp only [resolve, h2]
            simp [go_sem]
          · intro f' _; trivial
          · have e9 : (Value.func (.yield (w.heap.size + 1)) #[] #[] :: cs).toArray = #[.func (.yield (w.heap.size + 1)) #[] #[]] ++ cs.toArray := by simp
            rw [e9]
            simp [invoke, go_sem, run_callFunc q1 q2 q3]
          · intro hd; cases hd
          · refine (callsIn_wide.2 hinto).mono ?_
            rintro en w3 ⟨v, rfl, hv, hp', nx', g2, loc2, k1, k2, k3, k4, k5⟩
            have hl2 := k3 _ _ hlo
            have hM : ∀ g3, g2.le g3 → FRel B g3 loc2 N e [] { a with defers := [{ target := .collected w.heap.size, args := #[] }] ++ a.defers } := by
              intro g3 hg3
              have F3 := F1.mono (Ghost.le_trans k2 hg3) k3
              refine ⟨F3.size, .inr ⟨hBn.2 rfl, ⟨w.heap.size, rfl, ⟨?_, ?_⟩, hg3 _ _ (k2 _ _ (by simp [g1])), ?_⟩, F3.defers⟩, F3.old, F3.base, F3.reg, F3.keys⟩
              · rw [hBn.1]; exact H.1.size
              · cases hbg : B.gh w.heap.size with
                | none => rfl
                | some x =>
                  have := (Array.getElem?_eq_some_iff.1 (H.1.ghost _ _ (F.old _ _ hbg))).1
                  omega
              · intro d' hd' he
                have : Marks B g a.defers := F.defers
                exact absurd he (marks_lt H.1 this d' hd')
            have H4 : ∀ st, lk hp' nx = some (.loop st) → st ≠ .busy → w3.heap[w.heap.size + 1]? = some (.loop (st.at rec')) ∧
                HeapN w0 ((nx, .dead) :: hp') nx' g2 loc2 (w3.putObj (w.heap.size + 1) (.loop { st.at rec' with state := .exhausted })) := by
              intro st hlk _
              obtain ⟨q1, _⟩ := k4.turn (st' := .ready) hlk hl2
              exact ⟨q1, HeapRel.set k4.1 hlk rfl hl2 rfl (by simp) (fun k hk => World.putObj_heap_other hk) ⟨rfl, rfl⟩ trivial, k4.2⟩
            unfold loopEnd at k1
            split at k1
            · rename_i hlk
              obtain ⟨q1, q2⟩ := H4 _ hlk (by simp)
              exact ⟨_, _, run_endLoop q1 (by simp [LSt.at]), e, _, _, g2, loc2, k1, Ghost.le_trans hle k2, Loc.le_trans hll k3, hM g2 (Ghost.le_refl _), q2⟩
            · rename_i hlk
              obtain ⟨q1, q2⟩ := H4 _ hlk (by simp)
              exact ⟨_, _, run_endLoop q1 (by simp [LSt.at]), wpIn_ret ⟨e, _, _, g2, loc2, k1, Ghost.le_trans hle k2, Loc.le_trans hll k3, hM g2 (Ghost.le_refl _), q2⟩⟩
            · rename_i hlk
              obtain ⟨q1, q2⟩ := H4 _ hlk (by simp)
              exact ⟨_, _, run_endLoop q1 (by simp [LSt.at]), wpIn_exit ⟨e, _, _, g2, loc2, k1, Ghost.le_trans hle k2, Loc.le_trans hll k3, hM g2 (Ghost.le_refl _), q2⟩⟩
            · rename_i hlk
              obtain ⟨q1, q2⟩ := H4 _ hlk (by simp)
              exact ⟨_, _, run_endLoop q1 (by simp [LSt.at]), wpIn_goto ⟨e, _, _, g2, loc2, k1, Ghost.le_trans hle k2, Loc.le_trans hll k3, hM g2 (Ghost.le_refl _), q2⟩⟩
            · exact k1.elim
        · exact h.elim
    | exit j => exact wpIn_exit ⟨e, hp, nx, g, loc, h, Ghost.le_refl g, Loc.le_refl loc, F, H⟩
    | ret => exact wpIn_ret ⟨e, hp, nx, g, loc, h, Ghost.le_refl g, Loc.le_refl loc, F, H⟩
    | _ => exact h.elim
end
end Go.Vm

noncomputable section
namespace Go.Vm
open Go
open Classical
set_option linter.unusedSimpArgs false

/-- What bears the datum d' bears the datum d. -/
def Bears (s : Sh) (d' d : D) : Prop := ∀ g vs, Rel g s d' vs → Rel g s d vs
theorem Bears.rfl {s : Sh} {d : D} : Bears s d d := fun _ _ h => h
theorem Bears.of_eq {s : Sh} {d' d : D} (h : d' = d) : Bears s d' d := by subst h; exact Bears.rfl
theorem Bears.bool {d' d : D} (h : d'.bool = d.bool) : Bears .bool d' d := fun g vs hr => by simp only [Rel] at hr ⊢; rw [← h]; exact hr
theorem Bears.int {k : IntKind} {d' d : D} (h : d'.int = d.int) : Bears (.int k) d' d := fun g vs hr => by simp only [Rel] at hr ⊢; rw [← h]; exact hr

mutual
/-- What is handed back is what the account says. -/
def resOK (hp : Hp) (hv : HV) : HV → Prop
  | .dat s d => match argD hp s hv with
    | some d' => Bears s d' d
    | none => False
  | .gptr s d => match hv with
    | .ptr o r [] s' => match lk hp o with
      | some (.box s0 v) => match s0.beq s && s'.beq s && r.beq s with
        | true => match argD hp s v with
          | some d' => Bears s d' d
          | none => False
        | false => False
      | _ => False
    | _ => False
  | .tup rs => match hv with
    | .tup hs => resOKs hp hs rs
    | _ => False
  | .fn f rs => match hv with
    | .fn f' hs => f' = f ∧ resOKs hp hs rs
    | _ => False
  | _ => False
def resOKs (hp : Hp) : List HV → List HV → Prop
  | [], [] => True
  | h :: hs, .dat s d :: rs => (match argD hp s h with
    | some d' => Bears s d' d
    | none => False) ∧ resOKs hp hs rs
  | h :: hs, .gptr s d :: rs => (match h with
    | .ptr o r [] s' => match lk hp o with
      | some (.box s0 v) => match s0.beq s && s'.beq s && r.beq s with
        | true => match argD hp s v with
          | some d' => Bears s d' d
          | none => False
        | false => False
      | _ => False
    | _ => False) ∧ resOKs hp hs rs
  | _, _ => False
end

def argAll : List Sh → (List D → Prop) → Prop
  | [], K => K []
  | s :: ss, K => ∀ d, InR s d → argAll ss fun ds => K (d :: ds)

def zipDat : List Sh → List D → List HV
  | s :: ss, d :: ds => norm (.dat s d) :: zipDat ss ds
  | _, _ => []

section
variable {P : Program} {c : Ctx} {w0 : Base} {hp : Hp} {g : Ghost} {loc : Loc} {w : World}

theorem bears_hrel {G : Ghost} {s : Sh} {d' d : D} {v : Value} (hb : Bears s d' d) (h : HRel G (fun _ => none) (.dat s d') v) : HRel G (fun _ => none) (.dat s d) v := by
  obtain ⟨us, h1, h2⟩ := HRel.dat_iff.1 h
  exact HRel.dat_iff.2 ⟨us, hb _ _ h1, h2⟩

theorem res_dat {G : Ghost} (HT : Takes hp g loc w G (fun _ => True)) (H : HeapRel w0 hp g loc w) {hv : HV} {s : Sh} {d : D} {v : Value} (h : match argD hp s hv with
    | some d' => Bears s d' d
    | none => False) (hr : HRel g loc hv v) : HRel G (fun _ => none) (.dat s d) v := by
  split at h
  · rename_i d' hd
    exact bears_hrel h (argD_hrel HT H (ownP_true _) hd hr)
  · exact h.elim

theorem res_gptr {G : Ghost} (HT : Takes hp g loc w G (fun _ => True)) (H : HeapRel w0 hp g loc w) {hv : HV} {s : Sh} {d : D} {v : Value} (h : match hv with
    | .ptr o r [] s' => match lk hp o with
      | some (.box s0 v) => match s0.beq s && s'.beq s && r.beq s with
        | true => match argD hp s v with
          | some d' => Bears s d' d
          | none => False
        | false => False
      | _ => False
    | _ => False) (hr : HRel g loc hv v) : HRel G (fun _ => none) (.gptr s d) v := by
  split at h
  · rename_i o r s'
    split at h
    · rename_i s0 vb ho
      split at h
      · rename_i hb
        simp only [Bool.and_eq_true] at hb
        obtain ⟨⟨e1, e2⟩, e3⟩ := hb
        have := Sh.beq_eq e1; subst this
        have := Sh.beq_eq e2; subst this
        have := Sh.beq_eq e3; subst this
        split at h
        · rename_i d' hd
          obtain ⟨b, cap, len, off, h1, h2, h3, h4⟩ := hr.ptr
          simp only [Sh.navs, Option.some.injEq, Prod.mk.injEq] at h2
          obtain ⟨_, rfl⟩ := h2
          obtain ⟨b', cap', len', T, vs, k1, k2, k3, k4, k5⟩ := H.obj o _ ho
          rw [h1] at k1
          simp only [Option.some.injEq, Place.at.injEq] at k1
          obtain ⟨rfl, rfl, rfl, _⟩ := k1
          refine ⟨[v], ?_, by simp [HV.agg, mkV]⟩
          simp only [HC]
          refine ⟨b, 0, vs, T, (0, 0), HT.ob o _ b _ _ trivial ho rfl h1 rfl k2, by omega, ?_, by rw [h4]⟩
          have : chunk vs.toList 0 r.size = vs.toList := by
            rw [← k3]; simp only [chunk, List.drop_zero]; exact List.take_of_length_le (by simp)
          rw [this]
          exact h _ _ (argD_rel HT H vb r d' _ (ownP_true _) hd k5)
        · exact h.elim
      · exact h.elim
    · exact h.elim
  · exact h.elim

theorem hrel_hvs {G : Ghost} {l : Loc} {h : HV} {v : Value} (hd : (∃ s d, h = .dat s d) ∨ ∃ s d, h = .gptr s d) (hr : HRel G l h v) : ∃ us, HC G l h us ∧ v = mkV h.agg us := by
  rcases hd with ⟨s, d, rfl⟩ | ⟨s, d, rfl⟩ <;> exact hr

theorem res_list {G : Ghost} (HT : Takes hp g loc w G (fun _ => True)) (H : HeapRel w0 hp g loc w) : ∀ {hs rs : List HV} {vs : List Value}, resOKs hp hs rs → HVs g loc hs vs → HVs G (fun _ => none) rs vs
  | [], [], [], _, _ => by simp only [HVs]
  | h :: hs, r :: rs, v :: vs, ho, hv => by
    simp only [HVs] at hv ⊢
    have hr : HRel g loc h v := by
      obtain ⟨us, h1, h2⟩ := hv.1
      cases h with
      | und => exact trivial
      | tup => simp [HC] at h1
      | _ => exact ⟨us, h1, h2⟩
    cases r with
    | dat s d =>
      simp only [resOKs] at ho
      exact ⟨hrel_hvs (.inl ⟨_, _, rfl⟩) (res_dat HT H ho.1 hr), res_list HT H ho.2 hv.2⟩
    | gptr s d =>
      simp only [resOKs] at ho
      exact ⟨hrel_hvs (.inr ⟨_, _, rfl⟩) (res_gptr HT H ho.1 hr), res_list HT H ho.2 hv.2⟩
    | _ => simp [resOKs] at ho
  | [], _ :: _, _, h, _ => by simp [resOKs] at h
  | _ :: _, [], _, h, _ => by simp [resOKs] at h
  | [], [], _ :: _, _, h => by simp [HVs] at h
  | _ :: _, _ :: _, [], _, h => by simp [HVs] at h

theorem resOK_sound {G : Ghost} (HT : Takes hp g loc w G (fun _ => True)) (H : HeapRel w0 hp g loc w) {hv r : HV} {v : Value} (h : resOK hp hv r) (hr : HRel g loc hv v) : HRel G (fun _ => none) r v := by
  cases r with
  | dat s d => simp only [resOK] at h; exact res_dat HT H h hr
  | gptr s d => simp only [resOK] at h; exact res_gptr HT H h hr
  | tup rs =>
    simp only [resOK] at h
    split at h
    · obtain ⟨vs, h1, h2⟩ := hr
      exact ⟨vs, res_list HT H h h1, h2⟩
    · exact h.elim
  | fn f rs =>
    simp only [resOK] at h
    split at h
    · obtain ⟨rfl, h⟩ := h
      obtain ⟨us, h1, h2⟩ := hr
      simp only [HC] at h1
      obtain ⟨cs, h3, rfl⟩ := h1
      refine ⟨_, ?_, h2⟩
      simp only [HC]
      exact ⟨cs, res_list HT H h h3, rfl⟩
    · exact h.elim
  | _ => simp [resOK] at h

theorem argAll_of {g : Ghost} : ∀ {ss : List Sh} {ds : List D} {vs : List Value} {K : List D → Prop}, ArgsRel g ss ds vs → argAll ss K → K ds
  | [], [], [], _, _, h => h
  | s :: ss, d :: ds, v :: vs, K, ha, h => by
    simp only [ArgsRel] at ha
    obtain ⟨us, h1, _⟩ := HRel.dat_iff.1 ha.1
    exact argAll_of (K := fun ds => K (d :: ds)) ha.2 (h d h1.inR)
  | [], [], _ :: _, _, h, _ => by simp [ArgsRel] at h
  | [], _ :: _, _, _, h, _ => by simp [ArgsRel] at h
  | _ :: _, [], _, _, h, _ => by simp [ArgsRel] at h
  | _ :: _, _ :: _, [], _, h, _ => by simp [ArgsRel] at h

theorem zipDat_args {g : Ghost} {l : Loc} : ∀ {ss : List Sh} {ds : List D} {vs : List Value}, ArgsRel g ss ds vs → (zipDat ss ds).length = vs.length ∧ ∀ (i : Nat) h v, (zipDat ss ds)[i]? = some h → vs[i]? = some v → HRel g l h v
  | [], [], [], _ => ⟨rfl, fun i h v h1 => by simp [zipDat] at h1⟩
  | s :: ss, d :: ds, v :: vs, ha => by
    simp only [ArgsRel] at ha
    obtain ⟨i1, i2⟩ := zipDat_args (l := l) ha.2
    refine ⟨by simp [zipDat, i1], fun i h v' h1 h2 => ?_⟩
    cases i with
    | zero =>
      simp only [zipDat, List.getElem?_cons_zero, Option.some.injEq] at h1 h2
      subst h1; subst h2
      exact norm_rel (ha.1.mono (Ghost.le_refl g) (fun o x h => by cases h))
    | succ i => exact i2 i h v' (by simpa [zipDat] using h1) (by simpa using h2)
  | [], [], _ :: _, h => by simp [ArgsRel] at h
  | [], _ :: _, _, h => by simp [ArgsRel] at h
  | _ :: _, [], _, h => by simp [ArgsRel] at h
  | _ :: _, _ :: _, [], h => by simp [ArgsRel] at h

/-- What is to be shown of a function. -/
def FunOK (c : Ctx) (fu : Nat) (F : Func) (S : Sum) : Prop := argAll S.shs fun ds => holds (S.pre ds) → vcFun c fu F (zipDat S.shs ds) [] 0 fun hv hp _ => resOK hp hv (S.res ds)

/-- **A function's account.** -/
theorem sumOK_of_vc (hC : CtxOK P c) (hm : P.follows .mixedOrders = true) {f : Nat} {F : Func} {S : Sum} {fu : Nat} (hf : P.funcs[f]? = some F) (hb : F.body.isSome = true) (hn : F.name ≠ "runtime.NumGoroutine")
    (h : FunOK c fu F S) : SumOK P f S := by
  intro g w ds vs hg ha hpre
  rw [run_callFunc hf hb hn]
  have h1 := argAll_of ha h hpre
  obtain ⟨hlen, hargs⟩ := zipDat_args (l := fun _ => none) ha
  have H0 : HeapN ⟨w.heap, g, w.os, w.output, fun _ => false⟩ [] 0 g (fun _ => none) w := ⟨⟨fun o vo h => by simp [lk] at h, fun o o' vo vo' b x x' h => by simp [lk] at h, hg, fun o vo b x h => by simp [lk] at h, fun o vo b x h => by simp [lk] at h, fun b _ _ => rfl, Nat.le_refl _, fun b x h _ _ => h, rfl, rfl⟩, fun _ _ => rfl⟩
  refine (intoFun_sound hC (vcCode_sound hC hm fu [] false) hf (fun o h hlk => by simp [lk] at hlk) h1 H0 hargs hlen).mono ?_
  rintro e w' ⟨v, rfl, hv, hp', nx', g', loc', k1, k2, k3, ⟨k4, _⟩, k5⟩
  refine ⟨v, rfl, ?_⟩
  let G : Ghost := fun b => if b < w.heap.size then g b else w'.heap[b]?
  have HT : Takes hp' g' loc' w' G (fun _ => True) := by
    constructor
    · intro b x hx
      show (if b < w.heap.size then g b else w'.heap[b]?) = some x
      split
      · rename_i hlt; exact k4.old b x hx hlt rfl
      · exact k4.ghost b x hx
    · intro o vo b x y _ h1 h2 h3 h4 h5
      have := (k4.low o vo b x h1 h2 h3 h4).resolve_left (fun h => by cases h)
      show (if b < w.heap.size then g b else w'.heap[b]?) = some y
      rw [if_neg (Nat.not_lt.2 this)]
      exact h5
  refine ⟨G, ?_, ?_, ?_, ⟨k4.size, fun b hb => k4.ext b hb rfl, k4.still⟩, resOK_sound HT k4 k1 k5⟩
  · exact Ghost.le_trans k2 HT.gh
  · intro b x hx
    by_cases hlt : b < w.heap.size
    · left; simpa [G, hlt] using hx
    · right; omega
  · intro b x hx
    by_cases hlt : b < w.heap.size
    · have hx' : g b = some x := by simpa [G, hlt] using hx
      have := hg b x hx'
      rw [k4.ext b hlt rfl]; exact this
    · simpa [G, hlt] using hx
end
end Go.Vm

noncomputable section
namespace Go.Vm
open Go
open Classical
set_option linter.unusedSimpArgs false

mutual
/-- No slice of things without cells. -/
def Sh.full : Sh → Bool
  | .struct ss => Sh.fulls ss
  | .arr _ s => s.full
  | .slice s => Nat.blt 0 s.size && s.full
  | _ => true
def Sh.fulls : List Sh → Bool
  | [] => true
  | s :: ss => s.full && Sh.fulls ss
end

section
variable {H : Type} {enc : TypeId × Value → H} {P : Program} {w : World} {base : Nat} {held : Bool}

theorem Lay.cells {s : Sh} {t : TypeId} (h : Lay P s t) : P.cellsOf t = s.size := by
  obtain ⟨i, h1, h2, _⟩ := h.ty
  simp [Program.cellsOf, h1, h2]

theorem cells?_some {a : Addr} {n : Nat} {cs : List Value} (h : w.cells? base a n = some cs) (hn : 0 < n) : a.spot = none ∧ ∃ row T fr, w.heap[a.block]? = some (.cells row T fr) ∧ a.off + n ≤ row.size ∧ cs = chunk row.toList a.off n := by
  unfold World.cells? at h
  split at h
  · have hlen := mapM_some_length h
    simp only [List.length_range] at hlen
    have get : ∀ i, i < n → w.cell? (a.add i) = cs[i]? := fun i hi => mapM_some_get h i i (by simp [hi])
    have cell0 : ∀ i, i < n → (i = 0 → a.spot = none) ∧ ∃ row T fr, w.heap[a.block]? = some (.cells row T fr) ∧ row[a.off + i]? = cs[i]? := by
      intro i hi
      have h1 := get i hi
      have h2 : cs[i]? = some cs[i] := by simp [hlen, hi]
      rw [h2] at h1
      unfold World.cell? at h1
      have e1 : (a.add i).block = a.block := by unfold Addr.add; split <;> rfl
      have e2 : (a.add i).off = a.off + i := by unfold Addr.add; split <;> simp_all
      have e3 : i = 0 → (a.add i).spot = a.spot := fun hi => by simp [Addr.add, hi]
      rw [e1, e2] at h1
      split at h1
      · rename_i row T fr hb
        split at h1
        · cases h1
        · rename_i hs
          exact ⟨fun hi => by rw [e3 hi] at hs; cases hh : a.spot <;> simp_all, row, T, fr, hb, by rw [h1, h2]⟩
      · cases h1
    obtain ⟨hs, row, T, fr, hb, _⟩ := cell0 0 hn
    have all : ∀ i, i < n → row[a.off + i]? = cs[i]? := by
      intro i hi
      obtain ⟨_, row', T', fr', hb', hr⟩ := cell0 i hi
      rw [hb] at hb'
      simp only [Option.some.injEq, Obj.cells.injEq] at hb'
      rw [hb'.1]; exact hr
    have hsz : a.off + n ≤ row.size := by
      have := all (n - 1) (by omega)
      have h2 : cs[n - 1]? = some (cs[n - 1]'(by omega)) := by simp
      rw [h2] at this
      have := (Array.getElem?_eq_some_iff.1 this).1
      omega
    refine ⟨hs rfl, row, T, fr, hb, hsz, ?_⟩
    apply List.ext_getElem?
    intro i
    simp only [chunk, List.getElem?_take, List.getElem?_drop]
    by_cases hi : i < n
    · rw [if_pos hi, ← all i hi]; simp
    · rw [if_neg hi]; simp; omega
  · cases h

/-- What the shape's own reading asks of a part. -/
def Parts (enc : TypeId × Value → H) (P : Program) (w : World) (base : Nat) (held : Bool) (n : Nat) (s : Sh) : Prop :=
  ∀ (t : TypeId) (cs : List Value) x, Lay P s t → s.full = true → DataW.trod enc P w base (fun _ => true) held n t cs = some x → ∃ d, Rel (whole w) s d cs

theorem lays_rel {n : Nat} : ∀ {ss : List Sh} {off : Nat} {fs : List Field} {cs : List Value} {xs : List (DataW H × List MemPlace)}, (∀ s ∈ ss, Parts enc P w base held n s) → Sh.fulls ss = true → Lays P ss off fs → Sh.sizes ss + off ≤ cs.length →
    (fs.mapM fun f => DataW.trod enc P w base (fun _ => true) held n f.type ((cs.drop f.offset).take (P.cellsOf f.type))) = some xs →
    ∃ ds : List D, ds.length = ss.length ∧ ∀ i d, (∀ j, j < ds.length → d.nth (i + j) = ds.getD j .Z) → Rels (whole w) ss i d ((cs.drop off).take (Sh.sizes ss))
  | [], off, [], cs, xs, _, _, _, _, _ => ⟨[], rfl, fun i d _ => by simp [Rels, Sh.sizes]⟩
  | s :: ss, off, f :: fs, cs, xs, ih, hfull, hl, hlen, hm => by
    simp only [Lays] at hl
    obtain ⟨l1, _, l3, l4, l5⟩ := hl
    simp only [Sh.sizes] at hlen
    simp only [Sh.fulls, Bool.and_eq_true] at hfull
    rw [List.mapM_cons] at hm
    simp only [Option.bind_eq_bind, Option.bind_eq_some_iff, Option.pure_def, Option.some.injEq] at hm
    obtain ⟨x, hx, xs', hxs, rfl⟩ := hm
    rw [l1, l4.cells] at hx
    obtain ⟨d0, hd0⟩ := ih s (by simp) f.type _ x l4 hfull.1 hx
    obtain ⟨ds, hds, hr⟩ := lays_rel (fun s hs => ih s (by simp [hs])) hfull.2 l5 (by omega) hxs
    refine ⟨d0 :: ds, by simp [hds], fun i d hd => ?_⟩
    simp only [Rels, Sh.sizes]
    have e1 : ((cs.drop off).take (s.size + Sh.sizes ss)).take s.size = (cs.drop off).take s.size := by rw [List.take_take]; congr 1; omega
    have e2 : ((cs.drop off).take (s.size + Sh.sizes ss)).drop s.size = (cs.drop (off + s.size)).take (Sh.sizes ss) := by
      rw [List.drop_take, List.drop_drop]
      congr 1; omega
    refine ⟨by simp; omega, ?_, ?_⟩
    · rw [e1]
      have := hd 0 (by simp)
      simp only [Nat.add_zero, List.getD_cons_zero] at this
      rw [this]; exact hd0
    · rw [e2]
      refine hr (i + 1) d fun j hj => ?_
      have := hd (j + 1) (by simp; omega)
      simp only [List.getD_cons_succ] at this
      rw [← this]; congr 1; omega
  | [], _, _ :: _, _, _, _, _, h, _, _ => by simp [Lays] at h
  | _ :: _, _, [], _, _, _, _, h, _, _ => by simp [Lays] at h

theorem trod_rel : ∀ (n : Nat) (s : Sh), Parts enc P w base held n s := by
  intro n
  induction n with
  | zero => intro s t cs x _ _ h; simp [DataW.trod] at h
  | succ n ih =>
    intro s t cs x hl hfull h
    rw [DataW.trod_step] at h
    have hlc := hl.cells
    cases s with
    | int k =>
      simp only [Lay] at hl
      unfold DataW.trodStep at h
      rw [hl.2] at h
      split at h
      case h_2 k1 k' m hu =>
        simp only [Option.some.injEq, TypeDesc.int.injEq] at hu; subst hu
        split at h
        · rename_i hk
          obtain ⟨rfl, hwf⟩ := hk
          refine ⟨.I m, ?_⟩
          simp only [Rel, D.int]
          simp only [Lit.wf, Bool.and_eq_true, decide_eq_true_eq] at hwf
          exact ⟨trivial, hwf⟩
        · cases h
      all_goals first | (cases h; done) | simp_all
    | bool =>
      simp only [Lay] at hl
      unfold DataW.trodStep at h
      rw [hl.2] at h
      split at h
      case h_1 b hu => exact ⟨.B b, by simp only [Rel, D.bool]⟩
      all_goals first | (cases h; done) | simp_all
    | str =>
      simp only [Lay] at hl
      unfold DataW.trodStep at h
      rw [hl.2] at h
      split at h
      case h_4 b hu =>
        by_cases hb : b.size ≤ maxLen
        · exact ⟨.S b, by simp only [Rel, D.str]; exact ⟨trivial, by unfold maxLen at hb; omega⟩⟩
        · rw [if_neg hb] at h; cases h
      all_goals first | (cases h; done) | simp_all
    | struct ss =>
      simp only [Lay] at hl
      obtain ⟨_, ⟨fs, hu, hls⟩, _⟩ := hl
      unfold DataW.trodStep at h
      rw [hu] at h
      split at h
      case h_9 fs' hu' =>
        simp only [Option.some.injEq, TypeDesc.struct.injEq] at hu'; subst hu'
        split at h
        · rename_i hlen
          rw [hlc] at hlen
          simp only [Option.map_eq_some_iff] at h
          obtain ⟨xs, hxs, _⟩ := h
          obtain ⟨ds, hds, hr⟩ := lays_rel (fun s _ => ih s) (by simpa [Sh.full] using hfull) hls (by simp only [Sh.size] at hlen; omega) hxs
          refine ⟨.L ds, ?_⟩
          simp only [Rel]
          have := hr 0 (.L ds) (fun j hj => by simp [D.nth])
          simp only [List.drop_zero] at this
          rwa [List.take_of_length_le (by simp only [Sh.size] at hlen; omega)] at this
        · cases h
      all_goals first | (cases h; done) | simp_all
    | arr m s =>
      simp only [Lay] at hl
      obtain ⟨_, ⟨e, hu, hls⟩, _⟩ := hl
      unfold DataW.trodStep at h
      rw [hu] at h
      simp only at h
      · split at h
        · rename_i hlen
          rw [hlc] at hlen
          simp only [Option.map_eq_some_iff] at h
          obtain ⟨xs, hxs, _⟩ := h
          have hlx := mapM_some_length hxs
          have each : ∀ j, j < m → ∃ d, Rel (whole w) s d (chunk cs (j * s.size) s.size) := by
            intro j hj
            have := mapM_some_get hxs j j (by simp [hj])
            have h2 : xs[j]? = some (xs[j]'(by simp at hlx; omega)) := by simp
            rw [h2, hls.cells] at this
            exact ih s e _ _ hls (by simpa [Sh.full] using hfull) this
          refine ⟨.F fun j => if h : j < m then Classical.choose (each j h) else .Z, ?_⟩
          simp only [Rel]
          refine ⟨by simpa [Sh.size] using hlen, fun j hj => ?_⟩
          simp only [D.nth, dif_pos hj]
          exact Classical.choose_spec (each j hj)
        · cases h
    | slice s =>
      simp only [Lay] at hl
      obtain ⟨_, e, hu, hls⟩ := hl
      simp only [Sh.full, Bool.and_eq_true] at hfull
      have hpos : 0 < s.size := nat_blt hfull.1
      unfold DataW.trodStep at h
      rw [hu] at h
      split at h
      case h_7 => exact ⟨.L [], by simp only [Rel, D.list]; exact ⟨none, 0, rfl, by simp⟩⟩
      case h_8 e' a len cap hu' =>
        simp only [Option.some.injEq, TypeDesc.slice.injEq] at hu'; subst hu'
        simp only at h
        split at h
        · rename_i hc
          obtain ⟨hbase, hlc', hcap⟩ := hc
          simp only [Option.bind_eq_some_iff, if_true, Option.map_eq_some_iff] at h
          obtain ⟨xs, hxs, ys, hys, _⟩ := h
          rw [hls.cells] at hxs hys
          have hlx := mapM_some_length hxs
          have hly := mapM_some_length hys
          simp only [List.length_range] at hlx hly
          have e1 : ∀ k, (a.add k).block = a.block ∧ (a.add k).off = a.off + k ∧ (k = 0 → (a.add k).spot = a.spot) := fun k => ⟨by unfold Addr.add; split <;> rfl, by unfold Addr.add; split <;> simp_all, fun hk => by simp [Addr.add, hk]⟩
          have part : ∀ k, k < cap → (k = 0 → a.spot = none) ∧ ∃ row T fr, w.heap[a.block]? = some (.cells row T fr) ∧ a.off + k * s.size + s.size ≤ row.size ∧ ∃ x, DataW.trod enc P w base (fun _ => true) held n e (chunk row.toList (a.off + k * s.size) s.size) = some x := by
            intro k hk
            have : ∃ x, ((w.cells? base (a.add (k * s.size)) s.size).bind (DataW.trod enc P w base (fun _ => true) held n e)) = some x := by
              by_cases hkl : k < len
              · have := mapM_some_get hxs k k (by simp [hkl])
                exact ⟨xs[k]'(by omega), by rw [this]; simp⟩
              · have := mapM_some_get hys (k - len) (k - len) (List.getElem?_range (by omega))
                have e2 : len + (k - len) = k := by omega
                rw [e2] at this
                exact ⟨ys[k - len]'(by omega), by rw [this]; simp⟩
            obtain ⟨x, hx⟩ := this
            simp only [Option.bind_eq_some_iff] at hx
            obtain ⟨cs', h1, h2⟩ := hx
            obtain ⟨k1, row, T, fr, k2, k3, rfl⟩ := cells?_some h1 hpos
            rw [(e1 _).1] at k2; rw [(e1 _).2.1] at k3 h2
            exact ⟨fun hk => by rw [(e1 _).2.2 (by simp [hk])] at k1; exact k1, row, T, fr, k2, k3, x, h2⟩
          by_cases hcz : cap = 0
          · refine ⟨.L [], ?_⟩
            simp only [Rel, D.list]
            have : len = 0 := by omega
            subst this
            exact ⟨some a, cap, rfl, by simp, fun h => by omega⟩
          · obtain ⟨hs, row, T, fr, hb, _⟩ := part 0 (by omega)
            have all : ∀ k, k < cap → a.off + k * s.size + s.size ≤ row.size ∧ ∃ x, DataW.trod enc P w base (fun _ => true) held n e (chunk row.toList (a.off + k * s.size) s.size) = some x := by
              intro k hk
              obtain ⟨_, row', T', fr', hb', h1, h2⟩ := part k hk
              rw [hb] at hb'
              simp only [Option.some.injEq, Obj.cells.injEq] at hb'
              rw [← hb'.1] at h1 h2; exact ⟨h1, h2⟩
            have each : ∀ k, k < cap → ∃ d, Rel (whole w) s d (chunk row.toList (a.off + k * s.size) s.size) := fun k hk => by
              obtain ⟨_, x, hx⟩ := all k hk
              exact ih s e _ _ hls hfull.2 hx
            let ds : List D := (List.range len).map fun k => if h : k < cap then Classical.choose (each k h) else .Z
            have hdl : ds.length = len := by simp [ds]
            refine ⟨.L ds, ?_⟩
            simp only [Rel, D.list]
            refine ⟨some a, cap, by rw [hdl], by rw [hdl]; unfold maxLen at hcap; omega, fun _ => ⟨hs rfl, row, T, fr, hb, ?_, fun j hj => ?_⟩⟩
            · have := (all (cap - 1) (by omega)).1
              have e2 : (cap - 1) * s.size + s.size = cap * s.size := by
                rw [← Nat.succ_mul]; congr 1; omega
              omega
            · rw [hdl] at hj
              have e3 : ds.getD j .Z = Classical.choose (each j (by omega)) := by
                have hjc : j < cap := by omega
                simp [ds, hj, hjc]
              rw [e3]
              exact Classical.choose_spec (each j (by omega))
        · cases h
      all_goals first | (cases h; done) | simp_all
    | ref => simp [Lay] at hl
end
end Go.Vm

noncomputable section
namespace Go.Vm
open Go
open Go.ChangeShapes Go.WideShapes Go.ChangeAt Go.RowKit
set_option linter.unusedSimpArgs false

section
variable {H : Type} {enc : TypeId × Value → H} {P : Program} {W W' : World} {base : Nat}

theorem value_shape {s : Sh} {t : TypeId} {v : Value} (hl : Lay P s t) (hval : Value.okWide P W .any base t v) : v = mkV s.agg v.cells.toList := by
  cases s with
  | struct ss =>
    simp only [Lay] at hl
    obtain ⟨_, ⟨fs, hu, _⟩, _⟩ := hl
    simp only [Value.okWide, hu] at hval
    obtain ⟨cs, rfl, _⟩ := hval
    simp [Sh.agg, mkV, Value.cells]
  | arr n s =>
    simp only [Lay] at hl
    obtain ⟨_, ⟨e, hu, _⟩, _⟩ := hl
    simp only [Value.okWide, hu] at hval
    obtain ⟨cs, rfl, _⟩ := hval
    simp [Sh.agg, mkV, Value.cells]
  | int k =>
    simp only [Lay] at hl
    cases v <;> simp_all [Value.okWide, Cell.okWide, Cell.ok, Sh.agg, mkV, Value.cells]
  | bool =>
    simp only [Lay] at hl
    cases v <;> simp_all [Value.okWide, Cell.okWide, Cell.ok, Sh.agg, mkV, Value.cells]
  | str =>
    simp only [Lay] at hl
    cases v <;> simp_all [Value.okWide, Cell.okWide, Cell.ok, Sh.agg, mkV, Value.cells]
  | slice s =>
    simp only [Lay] at hl
    obtain ⟨_, e, hu, _⟩ := hl
    cases v <;> simp_all [Value.okWide, Cell.okWide, Cell.ok, Sh.agg, mkV, Value.cells]
  | ref => simp [Lay] at hl

/-- The arguments' shapes and types. -/
def argsB (P : Program) : List Sh → List TypeId → Bool
  | [], [] => true
  | s :: ss, t :: ts => layB P s t && s.full && P.readableRec t && Nat.blt t P.types.size && argsB P ss ts
  | _, _ => false

theorem args_rel : ∀ {ss : List Sh} {ts : List TypeId} {vs : List Value} {ds : List (DataW H)} {ps : List MemPlace}, argsB P ss ts = true → (∀ (j : Nat) t v, ts[j]? = some t → vs[j]? = some v → Value.okWide P W .any base t v) →
    DataW.TrodAll enc P W 0 (fun _ => true) true ts vs ds ps → ∃ dd, ArgsRel (whole W) ss dd vs
  | [], [], [], ds, ps, _, _, _ => ⟨[], by simp only [ArgsRel]⟩
  | s :: ss, t :: ts, v :: vs, d :: ds, ps, hb, hval, h => by
    simp only [argsB, Bool.and_eq_true] at hb
    obtain ⟨⟨⟨⟨h1, h2⟩, _⟩, _⟩, h5⟩ := hb
    obtain ⟨p, q, ⟨n, hd⟩, hrest, _⟩ := h
    obtain ⟨dd, hdd⟩ := args_rel h5 (fun j t v a b => hval (j + 1) t v (by simpa using a) (by simpa using b)) hrest
    obtain ⟨d0, hd0⟩ := trod_rel n s t _ _ (layB_ok h1) h2 hd
    refine ⟨d0 :: dd, ?_⟩
    simp only [ArgsRel]
    exact ⟨HRel.dat_iff.2 ⟨_, hd0, value_shape (layB_ok h1) (hval 0 t v rfl rfl)⟩, hdd⟩
  | [], [], _ :: _, _, _, _, _, h => by simp [DataW.TrodAll] at h
  | [], _ :: _, _, _, _, h, _, _ => by simp [argsB] at h
  | _ :: _, [], _, _, _, h, _, _ => by simp [argsB] at h
  | _ :: _, _ :: _, [], _, _, _, _, h => by simp [DataW.TrodAll] at h
  | _ :: _, _ :: _, _ :: _, [], _, _, _, h => by simp [DataW.TrodAll] at h

theorem trodAll_len : ∀ {ts : List TypeId} {vs : List Value} {ds : List (DataW H)} {ps : List MemPlace} {sp : Nat → Bool} {hd : Bool}, DataW.TrodAll enc P W 0 sp hd ts vs ds ps → ds.length = ts.length
  | [], [], [], _, _, _, _ => rfl
  | _ :: _, _ :: _, _ :: _, _, _, _, ⟨_, _, _, h, _⟩ => by simp [trodAll_len h]
  | [], [], _ :: _, _, _, _, h => by simp [DataW.TrodAll] at h
  | [], _ :: _, _, _, _, _, h => by simp [DataW.TrodAll] at h
  | _ :: _, [], _, _, _, _, h => by simp [DataW.TrodAll] at h
  | _ :: _, _ :: _, [], _, _, _, h => by simp [DataW.TrodAll] at h

theorem ext_same (h : ExtAll W W') {p : MemPlace} (hp : p.block < W.heap.size) : W.sameAt W' p := by
  cases p with
  | cell b o => exact World.cell?_of_block (w := W) (h.2.1 b hp)
  | map b => exact h.2.1 b hp

theorem args_stay (hl : laidOutB P = true) (he : ExtAll W W') {sp : Nat → Bool} : ∀ {ss : List Sh} {ts : List TypeId} {vs : List Value} {ds : List (DataW H)} {ps : List MemPlace}, argsB P ss ts = true →
    DataW.TrodAll enc P W 0 (fun _ => true) true ts vs ds ps → (∀ p ∈ ps, p.block < W.heap.size) → (∀ p ∈ ps, sp p.block = true) → DataW.TrodAll enc P W' 0 sp true ts vs ds ps
  | [], [], [], [], ps, _, h, _, _ => h
  | s :: ss, t :: ts, v :: vs, d :: ds, ps, hb, h, hlt, hs => by
    simp only [argsB, Bool.and_eq_true] at hb
    obtain ⟨⟨⟨⟨_, _⟩, h3⟩, h4⟩, h5⟩ := hb
    obtain ⟨p, q, hd, hrest, rfl⟩ := h
    refine ⟨p, q, WideElems.Trod_stays hl h3 (nat_blt h4) hd (fun x hx => ext_same he (hlt x (by simp [hx]))) (fun x hx => hs x (by simp [hx])), ?_, rfl⟩
    exact args_stay hl he h5 hrest (fun x hx => hlt x (by simp [hx])) (fun x hx => hs x (by simp [hx]))
  | [], [], [], _ :: _, _, _, h, _, _ => by simp [DataW.TrodAll] at h
  | [], [], _ :: _, _, _, _, h, _, _ => by simp [DataW.TrodAll] at h
  | [], _ :: _, _, _, _, h, _, _, _ => by simp [argsB] at h
  | _ :: _, [], _, _, _, h, _, _, _ => by simp [argsB] at h
  | _ :: _, _ :: _, [], _, _, _, h, _, _ => by simp [DataW.TrodAll] at h
  | _ :: _, _ :: _, _ :: _, [], _, _, h, _, _ => by simp [DataW.TrodAll] at h

theorem ext_keptBut (h : ExtAll W W') (may : MemPlace → Prop) : W.keptBut W' may := by
  refine ⟨h.2.2.1, h.2.2.2, fun i hi => ?_⟩
  rw [h.2.1 i hi]
  split <;> simp_all

theorem post_of_ext {f : Func} {s : ChangeSpec} {apart fresh handsOn again : Bool} {args : Array Value} {v : Value} {ds : List (DataW H)} {before : List MemPlace} (hl : laidOutB P = true) {ss : List Sh} (hB : argsB P ss f.params.toList = true)
    (hvars : s.vars = []) (hfn : (s.fn H (ds ++ [])).results = [.lit (.bool true)] ∧ (s.fn H (ds ++ [])).args = ds ∧ (s.fn H (ds ++ [])).vars = [])
    (hW : DataW.Whole enc P f.params.toList s.vars apart W args.toList ds [] before) (hA : DataW.TrodAll enc P W 0 (fun _ => true) true f.params.toList args.toList ds before) (he : ExtAll W W')
    {tb : TypeId} (hrt : f.resultTypes = #[tb]) (hub : P.underlying tb = some .bool) (hv : v = .bool true) : s.post enc P f apart fresh handsOn again W args v W' := by
  subst hv
  have hlt : ∀ p ∈ before, p.block < W.heap.size := fun p hp => hW.lt p hp
  have hres : ∀ (b : Nat) (sp : Nat → Bool) (hd : Bool), DataW.TrodAll enc P W' b sp hd f.resultTypes.toList ((Value.bool true).resultList f.resultTypes.size) (s.fn H (ds ++ [])).results [] := by
    intro b sp hd
    rw [hfn.1, hrt]
    exact trodAll_mk1 (shut_bool hub true)
  have hargs : ∀ sp : Nat → Bool, (∀ p ∈ before, sp p.block = true) → DataW.TrodAll enc P W' 0 sp true f.params.toList args.toList (s.fn H (ds ++ [])).args before := by
    intro sp hs
    rw [hfn.2.1]
    exact args_stay hl he hB hA hlt hs
  have hvs : ∀ sp : Nat → Bool, DataW.TrodVars enc P W' sp s.vars (s.fn H (ds ++ [])).vars [] := by
    intro sp
    rw [hvars, hfn.2.2]; rfl
  have hold : ∀ p ∈ before, (fun b => decide (b < W.heap.size)) p.block = true := fun p hp => by simpa using hlt p hp
  refine ⟨ds, [], before, [], before, [], hW, hres _ _ _, hargs _ hold, hvs _, World.keptBut_mono (fun p hp => ⟨hp, ?_⟩) (ext_keptBut he (· ∈ before)), fun _ => ?_⟩
  · exact Or.inr (by simpa using hp)
  · obtain ⟨_, _, _, _, _, hz, hn⟩ := hW
    refine ⟨ok_one hrt rfl (okWide_bool_mk hub _), _, _, ([] ++ before) ++ [], ⟨[] ++ before, [], trodAll_append (hargs _ (fun _ _ => rfl)) (hres _ _ _), hvs _, rfl, ?_, ?_⟩, ?_⟩
    · intro b off hp
      have hp' : MemPlace.cell b off ∈ before := by simpa using hp
      have := hz b off hp'
      rw [← this]
      exact World.frozen?_of_block (w := W) (he.2.1 b (hlt _ hp'))
    · intro ha
      have := hn ha
      simpa using this
    · intro p hp _
      simpa using hp

/-- **A law's contract.** -/
theorem law_contract {f : FuncId} {fn : Func} {S : Sum} {s : ChangeSpec} {apart fresh handsOn again : Bool} (hsum : SumOK P f S) (hf : P.funcs[f]? = some fn) (hbd : fn.body.isSome = true) (hn : fn.name ≠ "runtime.NumGoroutine")
    (hl : laidOutB P = true) (hB : argsB P S.shs fn.params.toList = true) (hres : ∀ ds, S.res ds = .dat .bool (.B true)) (hpre : ∀ ds, holds (S.pre ds)) {tb : TypeId} (hrt : fn.resultTypes = #[tb]) (hub : P.underlying tb = some .bool)
    (hvars : s.vars = []) (hfn : ∀ ds : List (DataW H), ds.length = fn.params.size → (s.fn H ds).results = [.lit (.bool true)] ∧ (s.fn H ds).args = ds ∧ (s.fn H ds).vars = [])
    (W : World) (base : Nat) (args : Array Value) (ds gs : List (DataW H)) (before : List MemPlace)
    (hval : ∀ (j : Nat) t v, fn.params[j]? = some t → args[j]? = some v → Value.okWide P W .any base t v) (hW : DataW.Whole enc P fn.params.toList s.vars apart W args.toList ds gs before) :
    Calls P f args W fun e W' => ∃ v, e = .returned v ∧ s.post enc P fn apart fresh handsOn again W args v W' := by
  have hW0 := hW
  obtain ⟨p, q, hA, hV, rfl, _, _⟩ := hW0
  rw [hvars] at hV
  obtain ⟨rfl, rfl⟩ := trodVars_none hV
  simp only [List.append_nil] at hW
  obtain ⟨dd, hdd⟩ := args_rel hB (fun j t v a b => hval j t v (by simpa using a) (by simpa using b)) hA
  have h1 := hsum (whole W) W dd args.toList (fun b x h => h) hdd (hpre dd)
  rw [run_callFunc hf hbd hn] at h1
  simp only [OpWp] at h1
  have e9 : args.toList.toArray = args := by simp
  rw [e9] at h1
  refine h1.mono fun e W' ⟨v, he, g', _, _, _, hx, hr⟩ => ⟨v, he, ?_⟩
  rw [hres] at hr
  have hlen := trodAll_len hA
  exact post_of_ext hl hB hvars (by rw [List.append_nil]; exact hfn _ (by simpa using hlen)) hW hA hx hrt hub hr.bool
end
end Go.Vm

noncomputable section
namespace Go.Vm
open Go
open Classical
set_option linter.unusedSimpArgs false

/-- What is given besides the slice. -/
def mpAll : List MP → (List D → List HV → Prop) → Prop
  | [], K => K [] []
  | .dat s :: ps, K => ∀ d, InR s d → mpAll ps fun ds hs => K (d :: ds) (norm (.dat s d) :: hs)
  | .fn n :: ps, K => mpAll ps fun ds hs => K ds ((match Nat.ble bndN n with
    | true => .und
    | false => .fn n []) :: hs)

def BearsL (s : Sh) (ys zs : List D) : Prop := ys.length = zs.length ∧ ∀ j, j < ys.length → Bears s (ys.getD j .Z) (zs.getD j .Z)

/-- What is to be shown of such a function. -/
def FunMOK (c : Ctx) (fu : Nat) (F : Func) (M : MSum) : Prop := ∀ xs : List D, InR (.slice M.s) (.L xs) → mpAll M.pats fun ds hs => holds (M.pre xs ds) →
  vcFun c fu F (.own 0 M.s :: hs) [(0, .grow M.s xs)] 1 fun hv hp _ => (match lk hp 0 with
    | some (.grow s ys) => s.beq M.s = true ∧ BearsL M.s ys (M.out xs ds)
    | _ => False) ∧ resOK hp hv (M.res xs ds)

theorem mpAll_of {g : Ghost} : ∀ {ps : List MP} {ds : List D} {vs : List Value} {K : List D → List HV → Prop}, MArgs g ps ds vs → mpAll ps K →
    ∃ hs, K ds hs ∧ hs.length = vs.length ∧ ∀ (l : Loc) (i : Nat) h v, hs[i]? = some h → vs[i]? = some v → HRel g l h v
  | [], [], [], _, _, h => ⟨[], h, rfl, fun _ i h v h1 => by simp at h1⟩
  | .dat s :: ps, d :: ds, v :: vs, K, ha, h => by
    simp only [MArgs] at ha
    obtain ⟨us, h1, _⟩ := HRel.dat_iff.1 ha.1
    obtain ⟨hs, k1, k2, k3⟩ := mpAll_of (K := fun ds hs => K (d :: ds) (norm (.dat s d) :: hs)) ha.2 (h d h1.inR)
    refine ⟨_, k1, by simp [k2], fun l i h v' h1 h2 => ?_⟩
    cases i with
    | zero =>
      simp only [List.getElem?_cons_zero, Option.some.injEq] at h1 h2
      subst h1; subst h2
      exact norm_rel (ha.1.mono (Ghost.le_refl g) (fun o x h => by cases h))
    | succ i => exact k3 l i h v' (by simpa using h1) (by simpa using h2)
  | .fn n :: ps, ds, v :: vs, K, ha, h => by
    simp only [MArgs] at ha
    obtain ⟨hs, k1, k2, k3⟩ := mpAll_of (K := fun ds hs => K ds ((match Nat.ble bndN n with
      | true => .und
      | false => .fn n []) :: hs)) ha.2 h
    refine ⟨_, k1, by simp [k2], fun l i h v' h1 h2 => ?_⟩
    cases i with
    | zero =>
      simp only [List.getElem?_cons_zero, Option.some.injEq] at h1 h2
      subst h1; subst h2
      rw [ha.1]
      split
      · exact trivial
      · rename_i hb
        exact fn_mk (cs := []) hb (by simp only [HVs])
    | succ i => exact k3 l i h v' (by simpa using h1) (by simpa using h2)
  | [], [], _ :: _, _, h, _ => by simp [MArgs] at h
  | [], _ :: _, _, _, h, _ => by simp [MArgs] at h
  | .dat _ :: _, [], _, _, h, _ => by simp [MArgs] at h
  | .dat _ :: _, _ :: _, [], _, h, _ => by simp [MArgs] at h
  | .fn _ :: _, _, [], _, h, _ => by simp [MArgs] at h

section
variable {P : Program} {c : Ctx}

theorem mutOK_of_vc (hC : CtxOK P c) (hm : P.follows .mixedOrders = true) {f : Nat} {F : Func} {M : MSum} {fu : Nat} (hf : P.funcs[f]? = some F) (hb : F.body.isSome = true) (hn : F.name ≠ "runtime.NumGoroutine")
    (h : FunMOK c fu F M) : MutOK P f M := by
  intro g w x xs ds v0 vs hg hgx hO h0 ha hpre
  rw [run_callFunc hf hb hn]
  have l0 : loc1 x 0 = some x := by simp [loc1]
  have hin : InR (.slice M.s) (.L xs) := by
    simp only [InR, D.list]
    rcases hO with ⟨_, rfl⟩ | ⟨b, cap, T, cs, _, _, _, k4, k5⟩
    · exact ⟨by simp, fun j hj => by simp at hj⟩
    · exact ⟨by omega, fun j hj => (k5 j hj).inR⟩
  obtain ⟨hs, h1, h2, h3⟩ := mpAll_of ha (h xs hin)
  have H0 : HeapN ⟨w.heap, g, w.os, w.output, fun b => decide (x.blk = some b)⟩ [(0, .grow M.s xs)] 1 g (loc1 x) w := by
    have one : ∀ o vo, lk [(0, VO.grow M.s xs)] o = some vo → o = 0 ∧ vo = .grow M.s xs := by
      intro o vo h
      rw [lk_cons] at h
      split at h
      · rename_i e; simp only [Option.some.injEq] at h; exact ⟨e.symm, h.symm⟩
      · simp [lk] at h
    refine ⟨⟨?_, ?_, hg, ?_, ?_, fun b _ _ => rfl, Nat.le_refl _, fun b x h _ _ => h, rfl, rfl⟩, ?_⟩
    · intro o vo h
      obtain ⟨rfl, rfl⟩ := one o vo h
      exact hO
    · intro o o' vo vo' b y y' h h' _ _ _ _ _ _
      rw [(one o vo h).1, (one o' vo' h').1]
    · intro o vo b y h _ e hb
      obtain ⟨rfl, _⟩ := one o vo h
      rw [l0] at e
      simp only [Option.some.injEq] at e; subst e
      exact hgx b hb
    · intro o vo b y h _ e hb
      obtain ⟨rfl, _⟩ := one o vo h
      rw [l0] at e
      simp only [Option.some.injEq] at e; subst e
      exact .inl (by simp [hb])
    · intro o ho
      simp only [loc1]
      rw [if_neg (by omega)]
  refine (intoFun_sound hC (vcCode_sound hC hm fu [] false) hf (fun o h hlk => by simp [lk] at hlk) (h1 hpre) H0 (vs := v0 :: vs) ?_ (by simp [h2])).mono ?_
  · intro i h v k1 k2
    cases i with
    | zero =>
      simp only [List.getElem?_cons_zero, Option.some.injEq] at k1 k2
      subst k1; subst k2; exact h0
    | succ i => exact h3 _ i h v (by simpa using k1) (by simpa using k2)
  rintro e w' ⟨v, rfl, hv, hp', nx', g', loc', k1, k2, k3, ⟨k4, _⟩, k5⟩
  refine ⟨v, rfl, k4.size, fun k hk hne => ?_, k4.still, ?_, ?_⟩
  · exact k4.ext k hk (by simp [hne])
  · have hend := k1.1
    split at hend
    · rename_i s ys hl
      have := Sh.beq_eq hend.1; subst this
      have hx' : loc' 0 = some x := k3 _ _ l0
      refine ⟨g', ?_⟩
      rcases k4.obj 0 _ hl with ⟨m1, m2⟩ | ⟨b, cap, T, cs, m1, m2, m3, m4, m5⟩
      · rw [hx'] at m1
        refine .inl ⟨by rw [l0]; exact m1, List.eq_nil_of_length_eq_zero (by rw [← hend.2.1, m2]; rfl)⟩
      · rw [hx'] at m1
        refine .inr ⟨b, cap, T, cs, by rw [l0, ← hend.2.1]; exact m1, m2, m3, by rw [← hend.2.1]; exact m4, fun j hj => ?_⟩
        rw [← hend.2.1] at hj
        exact hend.2.2 j hj _ _ (m5 j hj)
    · exact hend.elim
  · exact ⟨_, resOK_sound (Takes.whole k4) k4 k1.2 k5⟩

/-- A context with functions that write into their callers' slices. -/
theorem CtxOK.withM {c : Ctx} (h : CtxOK P c) {f : Nat} {M : MSum} (hM : MutOK P f M) : CtxOK P { c with maps := (f + 1000000, .msum M) :: c.maps } where
  tab := h.tab
  refs := h.refs
  sums := h.sums
  maps := by
    intro t m hl
    rw [lk_cons] at hl
    split at hl
    · rename_i e
      simp only [Option.some.injEq] at hl; subst hl
      exact ⟨f, e.symm, hM⟩
    · exact h.maps t m hl
  funs := h.funs
end
end Go.Vm

noncomputable section
namespace Go.Vm
open Go
open Classical
set_option linter.unusedSimpArgs false

/-- What is handed back is a slice of one's own. -/
def outOf (b : Bool) (hv : HV) : Option (Nat × Sh) := match b with
  | false => match hv with
    | .own o s => some (o, s)
    | _ => none
  | true => match hv with
    | .st [.slice s0] [.own o s] => match s0.beq s with
      | true => some (o, s)
      | false => none
    | _ => none
def outRes (S : OSum) (hp : Hp) (hv : HV) (zs : List D) : Prop := match outOf S.wrap hv with
  | some (o, s) => match lk hp o with
    | some (.grow s2 ys) => (s.beq S.s = true ∧ s2.beq S.s = true) ∧ BearsL S.s ys zs
    | _ => False
  | none => False

/-- What is to be shown of such a function. -/
def FunOOK (c : Ctx) (fu : Nat) (F : Func) (S : OSum) : Prop := argAll S.shs fun ds => holds (S.pre ds) → vcFun c fu F (zipDat S.shs ds) [] 0 fun hv hp _ => outRes S hp hv (S.out ds)

section
variable {P : Program} {c : Ctx}

theorem outOf_rel {g : Ghost} {loc : Loc} {b : Bool} {hv : HV} {o : Nat} {s : Sh} {v : Value} (h : outOf b hv = some (o, s)) (hr : HRel g loc hv v) {x : Place} (hx : loc o = some x) {G : Ghost} : HRel G (loc1 x) (owrap b 0 s) v := by
  have own : ∀ us, HC g loc (.own o s) us → HC G (loc1 x) (.own 0 s) us := by
    intro us h
    simp only [HC, loc1, if_true, hx] at h ⊢
    exact h
  cases b
  · cases hv <;> simp only [outOf, reduceCtorEq] at h
    simp only [Option.some.injEq, Prod.mk.injEq] at h
    obtain ⟨rfl, rfl⟩ := h
    obtain ⟨us, h1, h2⟩ := hr
    exact ⟨us, own us h1, h2⟩
  · simp only [outOf] at h
    split at h
    · rename_i s0 o' s'
      split at h
      · rename_i hb
        simp only [Option.some.injEq, Prod.mk.injEq] at h
        obtain ⟨rfl, rfl⟩ := h
        have := Sh.beq_eq hb; subst this
        obtain ⟨us, h1, h2⟩ := hr
        refine ⟨us, ?_, h2⟩
        have h3 : HCs g loc [.slice s0] [.own o' s0] us := by simpa only [HC] using h1
        have h4 : HCs G (loc1 x) [.slice s0] [.own 0 s0] us := by
          unfold HCs at h3 ⊢
          exact ⟨h3.1, own _ h3.2.1, by have := h3.2.2; unfold HCs at this ⊢; exact this⟩
        simpa only [HC, owrap] using h4
      · cases h
    · cases h

theorem outOK_of_vc (hC : CtxOK P c) (hm : P.follows .mixedOrders = true) {f : Nat} {F : Func} {S : OSum} {fu : Nat} (hf : P.funcs[f]? = some F) (hb : F.body.isSome = true) (hn : F.name ≠ "runtime.NumGoroutine")
    (h : FunOOK c fu F S) : OutOK P f S := by
  intro g w ds vs hg ha hpre
  rw [run_callFunc hf hb hn]
  have h1 := argAll_of ha h hpre
  obtain ⟨hlen, hargs⟩ := zipDat_args (l := fun _ => none) ha
  have H0 : HeapN ⟨w.heap, g, w.os, w.output, fun _ => false⟩ [] 0 g (fun _ => none) w := ⟨⟨fun o vo h => by simp [lk] at h, fun o o' vo vo' b x x' h => by simp [lk] at h, hg, fun o vo b x h => by simp [lk] at h, fun o vo b x h => by simp [lk] at h, fun b _ _ => rfl, Nat.le_refl _, fun b x h _ _ => h, rfl, rfl⟩, fun _ _ => rfl⟩
  refine (intoFun_sound hC (vcCode_sound hC hm fu [] false) hf (fun o h hlk => by simp [lk] at hlk) h1 H0 hargs hlen).mono ?_
  rintro e w' ⟨v, rfl, hv, hp', nx', g', loc', k1, k2, k3, ⟨k4, _⟩, k5⟩
  refine ⟨v, rfl, ?_⟩
  unfold outRes at k1
  split at k1
  · rename_i o s ho
    split at k1
    · rename_i s2 ys hys
      obtain ⟨⟨e1, e2⟩, hB1, hB2⟩ := k1
      have := Sh.beq_eq e1; subst this
      have := Sh.beq_eq e2; subst this
      have hO := k4.obj o _ hys
      obtain ⟨x, hx⟩ : ∃ x, loc' o = some x := by
        rcases hO with ⟨m1, _⟩ | ⟨b, cap, T, cs, m1, _⟩
        · exact ⟨_, m1⟩
        · exact ⟨_, m1⟩
      have hlow : ∀ b, x.blk = some b → w.heap.size ≤ b := fun b hb' => (k4.low o _ b x hys rfl hx hb').resolve_left (fun h => by cases h)
      let G : Ghost := fun b => if b < w.heap.size then g b else if x.blk = some b then none else w'.heap[b]?
      have hG : g'.le G := by
        intro b y hy
        show (if b < w.heap.size then g b else if x.blk = some b then none else w'.heap[b]?) = some y
        split
        · rename_i hlt; exact k4.old b y hy hlt rfl
        · split
          · rename_i hxb
            rw [k4.sep o _ b x hys rfl hx hxb] at hy; cases hy
          · exact k4.ghost b y hy
      have hnew : ∀ b y, G b = some y → (b < w.heap.size ∧ g b = some y) ∨ (w.heap.size ≤ b ∧ x.blk ≠ some b ∧ w'.heap[b]? = some y) := by
        intro b y hy
        have hy : (if b < w.heap.size then g b else if x.blk = some b then none else w'.heap[b]?) = some y := hy
        split at hy
        · rename_i hlt; exact .inl ⟨hlt, hy⟩
        · rename_i hlt
          split at hy
          · cases hy
          · rename_i hne; exact .inr ⟨by omega, hne, hy⟩
      refine ⟨G, x, Ghost.le_trans k2 hG, ?_, ?_, ⟨k4.size, fun b hb => k4.ext b hb rfl, k4.still⟩, ?_, ?_, outOf_rel ho k5 hx⟩
      · intro b y hy
        rcases hnew b y hy with h | h
        · exact .inl h.2
        · exact .inr h.1
      · intro b y hy
        rcases hnew b y hy with ⟨hlt, h⟩ | h
        · rw [k4.ext b hlt rfl]; exact hg b y h
        · exact h.2.2
      · intro b hb'
        refine ⟨hlow b hb', ?_⟩
        cases hy : G b with
        | none => rfl
        | some y =>
          rcases hnew b y hy with ⟨hlt, _⟩ | h
          · have := hlow b hb'; omega
          · exact absurd hb' h.2.1
      · have l0 : loc1 x 0 = some x := by simp [loc1]
        rcases hO with ⟨m1, m2⟩ | ⟨b, cap, T, cs, m1, m2, m3, m4, m5⟩
        · rw [hx] at m1
          refine .inl ⟨by rw [l0]; exact m1, List.eq_nil_of_length_eq_zero (by rw [← hB1, m2]; rfl)⟩
        · rw [hx] at m1
          refine .inr ⟨b, cap, T, cs, by rw [l0, ← hB1]; exact m1, m2, m3, by rw [← hB1]; exact m4, fun j hj => ?_⟩
          rw [← hB1] at hj
          exact hB2 j hj _ _ ((m5 j hj).mono hG)
    · exact k1.elim
  · exact k1.elim

/-- A context with functions that hand back a slice of their own. -/
theorem CtxOK.withO {c : Ctx} (h : CtxOK P c) {f : Nat} {S : OSum} (hS : OutOK P f S) : CtxOK P { c with maps := (f + 1000000, .osum S) :: c.maps } where
  tab := h.tab
  refs := h.refs
  sums := h.sums
  maps := by
    intro t m hl
    rw [lk_cons] at hl
    split at hl
    · rename_i e
      simp only [Option.some.injEq] at hl; subst hl
      exact ⟨f, e.symm, hS⟩
    · exact h.maps t m hl
  funs := h.funs
end
end Go.Vm

noncomputable section
namespace Go.Vm
open Go
open Classical
set_option linter.unusedSimpArgs false

def addLast (hs : List HV) (z : HV) : List HV := @List.rec HV (fun _ => List HV) [z] (fun h _ ih => h :: ih) hs
theorem addLast_eq (z : HV) : ∀ hs : List HV, addLast hs z = hs ++ [z]
  | [] => rfl
  | h :: t => by
    show h :: addLast t z = _
    rw [addLast_eq z t]; rfl

/-- What is to be shown of such a function. -/
def FunPOK (c : Ctx) (fu : Nat) (F : Func) (S : PSum) : Prop := argAll S.shs fun ds => ∀ d, InR S.t d → holds (S.pre ds d) →
  vcFun c fu F (addLast (zipDat S.shs ds) (.ptr 0 S.t [] S.t)) [(0, .box S.t (.dat S.t d))] 1 fun hv hp _ => (match lk hp 0 with
    | some (.box s (.dat s' d')) => (s.beq S.t = true ∧ s'.beq S.t = true) ∧ Bears S.t d' (S.box ds d)
    | _ => False) ∧ resOK hp hv (S.res ds d)

section
variable {P : Program} {c : Ctx}

theorem ptrOK_of_vc (hC : CtxOK P c) (hm : P.follows .mixedOrders = true) {f : Nat} {F : Func} {S : PSum} {fu : Nat} (hf : P.funcs[f]? = some F) (hb : F.body.isSome = true) (hn : F.name ≠ "runtime.NumGoroutine")
    (h : FunPOK c fu F S) : PtrOK P f S := by
  intro g w x ds d vs vp hg hgx ha hO h0 hpre
  rw [run_callFunc hf hb hn]
  have l0 : loc1 x 0 = some x := by simp [loc1]
  have hin : InR S.t d := by
    obtain ⟨b, cap, len, T, ws, _, _, _, _, k5⟩ := hO
    simp only [HC] at k5
    exact k5.inR
  have h1 := argAll_of ha h d hin hpre
  rw [addLast_eq] at h1
  obtain ⟨hlen, hargs⟩ := zipDat_args (l := loc1 x) ha
  have H0 : HeapN ⟨w.heap, g, w.os, w.output, fun b => decide (x.blk = some b)⟩ [(0, .box S.t (.dat S.t d))] 1 g (loc1 x) w := by
    have one : ∀ o vo, lk [(0, VO.box S.t (.dat S.t d))] o = some vo → o = 0 ∧ vo = .box S.t (.dat S.t d) := by
      intro o vo h
      rw [lk_cons] at h
      split at h
      · rename_i e; simp only [Option.some.injEq] at h; exact ⟨e.symm, h.symm⟩
      · simp [lk] at h
    refine ⟨⟨?_, ?_, hg, ?_, ?_, fun b _ _ => rfl, Nat.le_refl _, fun b x h _ _ => h, rfl, rfl⟩, ?_⟩
    · intro o vo h
      obtain ⟨rfl, rfl⟩ := one o vo h
      exact hO
    · intro o o' vo vo' b y y' h h' _ _ _ _ _ _
      rw [(one o vo h).1, (one o' vo' h').1]
    · intro o vo b y h _ e hb
      obtain ⟨rfl, _⟩ := one o vo h
      rw [l0] at e
      simp only [Option.some.injEq] at e; subst e
      exact hgx b hb
    · intro o vo b y h _ e hb
      obtain ⟨rfl, _⟩ := one o vo h
      rw [l0] at e
      simp only [Option.some.injEq] at e; subst e
      exact .inl (by simp [hb])
    · intro o ho
      simp only [loc1]
      rw [if_neg (by omega)]
  refine (intoFun_sound hC (vcCode_sound hC hm fu [] false) hf (fun o h hlk => by simp [lk] at hlk) h1 H0 (vs := vs ++ [vp]) ?_ (by simp [hlen])).mono ?_
  · intro i h v k1 k2
    rcases Nat.lt_or_ge i vs.length with hi | hi
    · rw [List.getElem?_append_left (by omega)] at k1
      rw [List.getElem?_append_left hi] at k2
      exact hargs i h v k1 k2
    · rw [List.getElem?_append_right (by omega)] at k1
      rw [List.getElem?_append_right hi] at k2
      rw [hlen] at k1
      cases hj : i - vs.length with
      | zero =>
        rw [hj] at k1 k2
        simp only [List.getElem?_cons_zero, Option.some.injEq] at k1 k2
        subst k1; subst k2
        exact h0
      | succ n => rw [hj] at k1; simp at k1
  rintro e w' ⟨v, rfl, hv, hp', nx', g', loc', k1, k2, k3, ⟨k4, _⟩, k5⟩
  refine ⟨v, rfl, k4.size, fun k hk hne => ?_, k4.still, ?_, ?_⟩
  · exact k4.ext k hk (by simp [hne])
  · have hend := k1.1
    split at hend
    · rename_i s s' d' hl
      obtain ⟨⟨e1, e2⟩, e3⟩ := hend
      have := Sh.beq_eq e1; subst this
      have := Sh.beq_eq e2; subst this
      have hx' : loc' 0 = some x := k3 _ _ l0
      refine ⟨g', ?_⟩
      obtain ⟨b, cap, len, T, ws, m1, m2, m3, m4, m5⟩ := k4.obj 0 _ hl
      rw [hx'] at m1
      refine ⟨b, cap, len, T, ws, by rw [l0]; exact m1, m2, m3, ⟨(by have h := m4.1; unfold fits at h ⊢; exact h), m4.2⟩, ?_⟩
      simp only [HC] at m5 ⊢
      exact e3 _ _ m5
    · exact hend.elim
  · exact ⟨_, resOK_sound (Takes.whole k4) k4 k1.2 k5⟩

/-- A context with functions that write into a variable whose address they are given. -/
theorem CtxOK.withP {c : Ctx} (h : CtxOK P c) {f : Nat} {S : PSum} (hS : PtrOK P f S) : CtxOK P { c with maps := (f + 1000000, .psum S) :: c.maps } where
  tab := h.tab
  refs := h.refs
  sums := h.sums
  maps := by
    intro t m hl
    rw [lk_cons] at hl
    split at hl
    · rename_i e
      simp only [Option.some.injEq] at hl; subst hl
      exact ⟨f, e.symm, hS⟩
    · exact h.maps t m hl
  funs := h.funs
end
end Go.Vm

noncomputable section
namespace Go.Vm
open Go
open Classical
set_option linter.unusedSimpArgs false
set_option linter.unusedVariables false

/-- The operations but the last one, and the last one. -/
def splitL (l : List Oper) : Option (List Oper × Oper) := @List.rec Oper (fun _ => Option (List Oper × Oper)) none (fun o _ ih => match ih with
  | none => some ([], o)
  | some (os, d) => some (o :: os, d)) l
theorem splitL_none : ∀ {l : List Oper}, splitL l = none → l = []
  | [], _ => rfl
  | o :: l, h => by
    have h : (match splitL l with
      | none => some ([], o)
      | some (os, d) => some (o :: os, d)) = none := h
    split at h <;> cases h
theorem splitL_some : ∀ {l os : List Oper} {d : Oper}, splitL l = some (os, d) → l = os ++ [d]
  | [], _, _, h => by cases h
  | o :: l, os, d, h => by
    have h : (match splitL l with
      | none => some ([], o)
      | some (os, d) => some (o :: os, d)) = some (os, d) := h
    split at h
    · rename_i hn
      simp only [Option.some.injEq, Prod.mk.injEq] at h
      obtain ⟨rfl, rfl⟩ := h
      rw [splitL_none hn]; rfl
    · rename_i os' d' hs
      simp only [Option.some.injEq, Prod.mk.injEq] at h
      obtain ⟨rfl, rfl⟩ := h
      rw [splitL_some hs]; rfl

def leaves (x : Exit) : Bool := match x with
  | .normal => true
  | .ret => true
  | _ => false
/-- What comes behind the rest: the closure, then the results. -/
def vcTail (c : Ctx) (fu : Nat) (F : Func) (f : Nat) (caps : List HV) (K : HV → Hp → Nat → Prop) (ex : Exit) (e : Env) (hp : Hp) (nx : Nat) : Prop := match leaves ex with
  | false => False
  | true => match lk c.funs f with
    | none => False
    | some G => intoFun c (vcCode c fu [] true) G caps hp nx fun _ hp nx => retK c e hp F.results.toList fun h => K h hp nx
def vcDefO (c : Ctx) (fu : Nat) (F : Func) (os : List Oper) (all : List Oper) (v : Operand) (y : Code) (K : HV → Hp → Nat → Prop) (e : Env) (hp : Hp) (nx : Nat) : Prop :=
  vcOps c (into c [] (vcCode c fu [] false)) F.ntmps e all os [] hp nx fun re hp nx => fHV (rho e re [] v) fun hv => match hv with
    | .fn f caps => match Nat.ble bndN f with
      | true => False
      | false => mergeC c F.ntmps re e fun e => vcCode c fu [] false F.ntmps y e hp nx (vcTail c fu F f caps K)
    | _ => False
def vcDef2 (c : Ctx) (fu : Nat) (F : Func) (ops : List Oper) (y : Code) (K : HV → Hp → Nat → Prop) (ex : Exit) (e : Env) (hp : Hp) (nx : Nat) : Prop := match ex with
  | .normal => match splitL ops with
    | none => False
    | some (os, d) => match d.guard, d.dst, d.op with
      | none, none, .defer ⟨.value v, args, _⟩ => match args.toList with
        | [] => vcDefO c fu F os ops v y K e hp nx
        | _ => False
      | _, _, _ => False
  | _ => False
/-- A function that defers. -/
def vcDef (c : Ctx) (fu : Nat) (F : Func) (hs : List HV) (hp : Hp) (nx : Nat) (K : HV → Hp → Nat → Prop) : Prop := match F.body with
  | some (.seq x (.seq (.region _ ops false) y)) => match Nat.ble hs.length F.ntmps with
    | true => argEnvK hs 0 fun e => vcCode c fu [] true F.ntmps x e hp nx (vcDef2 c fu F ops.toList y K)
    | false => False
  | _ => False
def FunDOK (c : Ctx) (fu : Nat) (F : Func) (S : Sum) : Prop := argAll S.shs fun ds => holds (S.pre ds) → vcDef c fu F (zipDat S.shs ds) [] 0 fun hv hp _ => resOK hp hv (S.res ds)

section
variable {P : Program} {c : Ctx} {w0 : Base}

theorem Marks.none {B : MB} {g : Ghost} (hm : B.mks = false) (ht : B.tail = none) : ∀ {ds : List Deferred}, Marks B g ds → ds = []
  | [], _ => rfl
  | d :: ds, .inl ⟨h, _⟩ => by rw [ht] at h; cases h
  | d :: ds, .inr ⟨h, _⟩ => by rw [hm] at h; cases h

/-- A closure that was deferred. -/
theorem intoD_sound (hC : CtxOK P c) {vc : Nat → Code → Env → Hp → Nat → (Exit → Env → Hp → Nat → Prop) → Prop} {ys : Ys} (hV : VcOK P w0 ys true vc) {f : Nat} {F : Func} (hf : P.funcs[f]? = some F) {hs : List HV} {hp : Hp} {nx : Nat} {K : HV → Hp → Nat → Prop} {g : Ghost} {loc : Loc} {w : World} {vs : List Value}
    (hY : YOK P w0 ys g loc) (h : intoFun c vc F hs hp nx K) (H : HeapN w0 hp nx g loc w) (hr : ∀ (i : Nat) h v, hs[i]? = some h → vs[i]? = some v → HRel g loc h v) (hlen : hs.length = vs.length) {u : FrameMode} :
    CallsDIn Fence.wide 0 P f vs.toArray u w fun e u' w' => u' = u ∧ ∃ v, e = .returned v ∧ ∃ h hp' nx' g' loc', K h hp' nx' ∧ g.le g' ∧ loc.le loc' ∧ HeapN w0 hp' nx' g' loc' w' ∧ HRel g' loc' h v := by
  unfold intoFun at h
  split at h
  · exact h.elim
  · rename_i b hb
    split at h
    · rename_i hle
      rw [argEnvK_eq] at h
      have hw := hV _ _ _ _ _ _ h ⟨w0.heap.size, g, false, none⟩ Fence.wide 0 ⟨rfl, fun h => by cases h⟩ ⟨.wide, fun _ => rfl⟩ g loc _ w hY (FRel.args rfl (Ghost.le_refl g) hr hlen (Nat.le_of_ble_eq_true hle)) H
      refine callsDIn_of_wp hf hb trivial (wpIn_mono hw ?_)
      rintro x a w' ⟨e', hp', nx', g', loc', h1, h2, h3, h4, h5⟩
      have hd : a.defers = [] := Marks.none rfl rfl h4.defers
      have fin : retK c e' hp' F.results.toList (fun h => K h hp' nx') → a.defers = [] ∧ ∃ v, (results F a.tmps).run P w' = .ok v w' ∧ ∃ v', Ending.returned v = .returned v' ∧ ∃ h hp' nx' g' loc', K h hp' nx' ∧ g.le g' ∧ loc.le loc' ∧ HeapN w0 hp' nx' g' loc' w' ∧ HRel g' loc' h v' := by
        intro h1
        obtain ⟨hv, v, m1, m2, m3⟩ := retK_sound hC h4 h5 h1
        exact ⟨hd, v, m1, v, rfl, hv, hp', nx', g', loc', m2, h2, h3, h5, m3⟩
      cases x with
      | normal => exact fin h1
      | ret => exact fin h1
      | _ => exact h1.elim
    · exact h.elim

theorem vcOps_more {B : MB} {Fe : Fence} {fn : Nat} {N : Nat} {e : Env} {all : List Oper} {inl : Cal → List HV → Hp → Nat → (HV → Hp → Nat → Prop) → Prop} {g0 : Ghost} {loc0 : Loc} (hFo : FOK Fe) (hC : CtxOK P c) (hI : InlOK P w0 g0 loc0 inl) {Q : Exit → Act → World → Prop} {K : REnv → Hp → Nat → Prop} {rest : List Oper} : ∀ (os : List Oper) (re : REnv) (hp : Hp) (nx : Nat) (g : Ghost) (loc : Loc) (a : Act) (w : World),
    vcOps c inl N e all os re hp nx K → g0.le g → loc0.le loc → FRel B g loc N e re a → HeapN w0 hp nx g loc w →
    (∀ re hp nx g' loc' a w, K re hp nx → g.le g' → loc.le loc' → FRel B g' loc' N e re a → HeapN w0 hp nx g' loc' w → wpListIn Fe fn P all.toArray Q rest a w) → wpListIn Fe fn P all.toArray Q (os ++ rest) a w
  | [], re, hp, nx, g, loc, a, w, h, _, _, F, H, hQ => hQ re hp nx g loc a w h (Ghost.le_refl g) (Loc.le_refl loc) F H
  | o :: os, re, hp, nx, g, loc, a, w, h, hg0, hl0, F, H, hQ => by
    have ih := vcOps_more (B := B) (Fe := Fe) (fn := fn) (N := N) (e := e) (all := all) hFo hC hI (Q := Q) (K := K) (rest := rest) os
    refine wpListIn_step fun Kk hKk => ?_
    rw [vcOps_cons] at h
    exact op_sound hFo hC hI h hg0 hl0 F H fun re' hp' nx' g' loc' a' w' hv hg hl F' H' => hKk _ _ (ih re' hp' nx' g' loc' a' w' hv (Ghost.le_trans hg0 hg) (Loc.le_trans hl0 hl) F' H' fun r h n g2 l2 a2 w2 hk hg2 hl2 f2 h2 => hQ r h n g2 l2 a2 w2 hk (Ghost.le_trans hg hg2) (Loc.le_trans hl hl2) f2 h2)

theorem yok_nil {g : Ghost} {loc : Loc} : YOK P w0 [] g loc := fun o h hlk => by simp [lk] at hlk

theorem vcDef_sound (hC : CtxOK P c) (hm : P.follows .mixedOrders = true) {fu : Nat} {f : Nat} {F : Func} (hf : P.funcs[f]? = some F) {hs : List HV} {hp : Hp} {nx : Nat} {K : HV → Hp → Nat → Prop} {g : Ghost} {loc : Loc} {w : World} {vs : List Value}
    (h : vcDef c fu F hs hp nx K) (H : HeapN w0 hp nx g loc w) (hr : ∀ (i : Nat) h v, hs[i]? = some h → vs[i]? = some v → HRel g loc h v) (hlen : hs.length = vs.length) :
    Calls P f vs.toArray w fun e w' => ∃ v, e = .returned v ∧ ∃ h hp' nx' g' loc', K h hp' nx' ∧ g.le g' ∧ loc.le loc' ∧ HeapN w0 hp' nx' g' loc' w' ∧ HRel g' loc' h v := by
  unfold vcDef at h
  split at h
  · rename_i x id ops y hb
    split at h
    · rename_i hle
      rw [argEnvK_eq] at h
      have hV := fun inR => vcCode_sound (w0 := w0) hC hm fu [] inR
      refine callsIn_wide.1 (callsIn_of_wp_marks (n := 0) hf hb trivial ?_)
      have hx := hV true _ _ _ _ _ _ h ⟨w0.heap.size, g, false, none⟩ Fence.wide 0 ⟨rfl, fun h => by cases h⟩ ⟨.wide, fun _ => rfl⟩ g loc _ w yok_nil (FRel.args rfl (Ghost.le_refl g) hr hlen (Nat.le_of_ble_eq_true hle)) H
      refine wpIn_seq (wpIn_mono hx ?_)
      rintro ex a1 w1 ⟨e1, hp1, nx1, g1, loc1, h1, hg1, hl1, F1, H1⟩
      cases ex with
      | normal =>
        unfold vcDef2 at h1
        simp only at h1
        split at h1
        · exact h1.elim
        · rename_i os d hs1
          split at h1
          · rename_i v args tys hgd hdd hop
            split at h1
            · rename_i hargs
              have hall := splitL_some hs1
              refine wpIn_seq (wpIn_region_list ?_)
              have e0 : ops = ops.toList.toArray := by simp
              rw [e0]
              have e00 : ops.toList.toArray.toList = os ++ [d] := by simpa using hall
              rw [e00]
              unfold vcDefO at h1
              rw [hall] at h1
              refine vcOps_more (B := ⟨w0.heap.size, g, false, none⟩) .wide hC (into_sound hC (hV false) yok_nil) os [] hp1 nx1 g1 loc1 a1 w1 h1 (Ghost.le_refl _) (Loc.le_refl _) ⟨F1.size, F1.defers, F1.old, F1.base, fun t k h hl => by simp [lk] at hl, fun t k h hl => by simp [lk] at hl⟩ H1 ?_
              intro re hp2 nx2 g2 loc2 a2 w2 hk hg2 hl2 F2 H2
              rw [fHV_eq] at hk
              split at hk
              · rename_i fc caps hrho
                split at hk
                · exact hk.elim
                rename_i hbn
                have hd2 : a2.defers = [] := Marks.none rfl rfl F2.defers
                have hfv := hrho ▸ rho_rel F2 (fun x hx => by simp at hx) v
                obtain ⟨us, q1, q2⟩ := hfv
                simp only [HC] at q1
                obtain ⟨cs, q3, rfl⟩ := q1
                simp only [HV.agg, mkV, List.headD_cons] at q2
                rw [fnV_f hbn] at q2
                refine wpListIn_plain hgd fun Kk hKk => ⟨fun _ _ => trivial, ?_⟩
                obtain ⟨dd, hdd1⟩ : ∃ dd : Deferred, dd = { target := .fn (.func fc) cs.toArray, args := #[] } := ⟨_, rfl⟩
                have hrun : ((d.semAt (Fence.wide).round a2.eval).run P w2) = .ok (.defer dd) w2 := by
                  show ((execOp a2.eval d).run P w2) = _
                  have ha : args = #[] := by
                    have := congrArg List.toArray hargs
                    simpa using this
                  rw [hdd1]
                  simp only [execOp, hop, resolve, q2, ha]
                  simp [go_sem]
                rw [hrun, Oper.uponIn_defer]
                refine hKk _ _ (wpListIn_nil ?_)
                obtain ⟨e2, hk2, F3⟩ := mergeC_rel F2 hk
                have hput : ({ a2 with defers := dd :: a2.defers } : Act).put d.dst undef = { a2 with defers := dd :: a2.defers } := by rw [hdd]; rfl
                rw [hput]
                have FB : FRel ⟨w0.heap.size, g2, true, some dd⟩ g2 loc2 F.ntmps e2 [] { a2 with defers := dd :: a2.defers } :=
                  ⟨F3.size, .inl ⟨rfl, fun k hk => (by rw [hdd1] at hk; cases hk), hd2⟩, Ghost.le_refl _, F3.base, F3.reg, F3.keys⟩
                have hy := hV false _ _ _ _ _ _ hk2 ⟨w0.heap.size, g2, true, some dd⟩ Fence.wide 0 ⟨rfl, fun _ => rfl⟩ ⟨.wide, fun _ => rfl⟩ g2 loc2 _ w2 yok_nil FB H2
                refine wpIn_mono hy ?_
                rintro ex3 a3 w3 ⟨e3, hp3, nx3, g3, loc3, k1, hg3, hl3, F4, H4⟩
                unfold vcTail at k1
                split at k1
                · exact k1.elim
                · rename_i hlv
                  split at k1
                  · exact k1.elim
                  · rename_i G hG
                    obtain ⟨p1, p2, p3⟩ := hC.funs _ _ hG
                    have fin : LeavesInM Fence.wide 0 P F a3.tmps (fun e w' => ∃ v, e = .returned v ∧ ∃ h hp' nx' g' loc', K h hp' nx' ∧ g.le g' ∧ loc.le loc' ∧ HeapN w0 hp' nx' g' loc' w' ∧ HRel g' loc' h v) a3.defers .returning w3 := by
                      refine leave_tail (w0 := w0) (B := ⟨w0.heap.size, g2, true, some dd⟩) (Nat.le_refl _) a3.defers g3 w3 F4 H4 fun g4 w4 F5 H5 => ?_
                      have q4 := q3.mono F5.old hl3
                      refine ⟨by simp, .inr ⟨fun hd => (by cases hd), .func fc, cs.toArray, fc, cs.toArray, (by rw [hdd1]), ?_, fun _ _ => trivial, ?_⟩⟩
                      · rw [hdd1]
                        simp [invoke, go_sem, run_callFunc p1 p2 p3]
                      · refine (intoD_sound hC (hV true) p1 yok_nil k1 H5 (fun i h v m1 m2 => by
                          obtain ⟨v', m3, m4⟩ := HVs_get q4 m1
                          rw [m3] at m2
                          simp only [Option.some.injEq] at m2; subst m2; exact m4) (HVs_length q4)).mono ?_
                        rintro e u' w5 ⟨rfl, v5, rfl, hv5, hp5, nx5, g5, loc5, m1, m2, m3, m4, m5⟩
                        have FR : FRel ⟨w0.heap.size, g, false, none⟩ g5 loc5 F.ntmps e3 [] { tmps := a3.tmps, defers := [] } := by
                          have F6 := F5.mono m2 m3
                          exact ⟨F6.size, rfl, Ghost.le_trans hg1 (Ghost.le_trans hg2 (Ghost.le_trans F5.old m2)), F6.base, F6.reg, F6.keys⟩
                        obtain ⟨hv6, v6, n1, n2, n3⟩ := retK_sound hC FR m4 m1
                        exact ⟨v6, n1, v6, rfl, hv6, hp5, nx5, g5, loc5, n2, FR.old, Loc.le_trans hl1 (Loc.le_trans hl2 (Loc.le_trans hl3 m3)), m4, n3⟩
                    cases ex3 with
                    | normal => exact fin
                    | ret => exact fin
                    | _ => cases hlv
              · exact hk.elim
            · exact h1.elim
          · exact h1.elim
      | _ => exact h1.elim
    · exact h.elim
  · exact h.elim

/-- **The account of a function that defers.** -/
theorem sumOK_of_def (hC : CtxOK P c) (hm : P.follows .mixedOrders = true) {f : Nat} {F : Func} {S : Sum} {fu : Nat} (hf : P.funcs[f]? = some F) (hb : F.body.isSome = true) (hn : F.name ≠ "runtime.NumGoroutine")
    (h : FunDOK c fu F S) : SumOK P f S := by
  intro g w ds vs hg ha hpre
  rw [run_callFunc hf hb hn]
  have h1 := argAll_of ha h hpre
  obtain ⟨hlen, hargs⟩ := zipDat_args (l := fun _ => none) ha
  have H0 : HeapN ⟨w.heap, g, w.os, w.output, fun _ => false⟩ [] 0 g (fun _ => none) w := ⟨⟨fun o vo h => by simp [lk] at h, fun o o' vo vo' b x x' h => by simp [lk] at h, hg, fun o vo b x h => by simp [lk] at h, fun o vo b x h => by simp [lk] at h, fun b _ _ => rfl, Nat.le_refl _, fun b x h _ _ => h, rfl, rfl⟩, fun _ _ => rfl⟩
  refine (vcDef_sound hC hm hf h1 H0 hargs hlen).mono ?_
  rintro e w' ⟨v, rfl, hv, hp', nx', g', loc', k1, k2, k3, ⟨k4, _⟩, k5⟩
  refine ⟨v, rfl, ?_⟩
  let G : Ghost := fun b => if b < w.heap.size then g b else w'.heap[b]?
  have HT : Takes hp' g' loc' w' G (fun _ => True) := by
    constructor
    · intro b x hx
      show (if b < w.heap.size then g b else w'.heap[b]?) = some x
      split
      · rename_i hlt; exact k4.old b x hx hlt rfl
      · exact k4.ghost b x hx
    · intro o vo b x y _ h1 h2 h3 h4 h5
      have := (k4.low o vo b x h1 h2 h3 h4).resolve_left (fun h => by cases h)
      show (if b < w.heap.size then g b else w'.heap[b]?) = some y
      rw [if_neg (Nat.not_lt.2 this)]
      exact h5
  refine ⟨G, ?_, ?_, ?_, ⟨k4.size, fun b hb => k4.ext b hb rfl, k4.still⟩, resOK_sound HT k4 k1 k5⟩
  · exact Ghost.le_trans k2 HT.gh
  · intro b x hx
    by_cases hlt : b < w.heap.size
    · left; simpa [G, hlt] using hx
    · right; omega
  · intro b x hx
    by_cases hlt : b < w.heap.size
    · have hx' : g b = some x := by simpa [G, hlt] using hx
      have := hg b x hx'
      rw [k4.ext b hlt rfl]; exact this
    · simpa [G, hlt] using hx
end
end Go.Vm
