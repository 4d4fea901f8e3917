/- The evaluator is right: code and functions. -/
import Derived.Test.YtjjpeeppfnhiiaaVmZ
namespace Go.Vm
open Go
open Classical
set_option linter.unusedSimpArgs false

section
variable {P : Program} {c : Ctx} {w0 : Base}

/-- Where code may end. -/
def Ends (B : Nat) (w0 : Base) (N : Nat) (K : Exit → Env → Hp → Nat → Prop) (g : Ghost) (loc : Loc) : Exit → Act → World → Prop := fun x a w =>
  ∃ e hp nx g' loc', K x e hp nx ∧ g.le g' ∧ loc.le loc' ∧ FRel B g' loc' N e [] a ∧ HeapN w0 hp nx g' loc' w

theorem Ends.mono {B N : Nat} {K : Exit → Env → Hp → Nat → Prop} {g g' : Ghost} {loc loc' : Loc} (hg : g.le g') (hl : loc.le loc') {x : Exit} {a : Act} {w : World} (h : Ends B w0 N K g' loc' x a w) : Ends B w0 N K g loc x a w := by
  obtain ⟨e, hp, nx, g2, l2, h1, h2, h3, h4⟩ := h
  exact ⟨e, hp, nx, g2, l2, h1, Ghost.le_trans hg h2, Loc.le_trans hl h3, h4⟩

def resOne (tmps : Array Value) : ResultVar → Sem Value
  | .tmp t => pure (tmps.getD t undef)
  | .cell x t => asAddr (tmps.getD x undef) >>= fun ad => loadVar t ad

theorem results_eq (fn : Func) (tmps : Array Value) : results fn tmps = (fn.results.mapM (resOne tmps)) >>= fun vs => pure (if h : vs.size = 1 then vs[0] else .tuple vs) := by
  unfold results
  congr 2

/-- The results, one by one. -/
theorem resList_sound (hC : CtxOK P c) {B : Nat} {g : Ghost} {loc : Loc} {N : Nat} {e : Env} {hp : Hp} {nx : Nat} {a : Act} {w : World} (F : FRel B g loc N e [] a) (H : HeapN w0 hp nx g loc w) : ∀ (rs : List ResultVar) (K : List HV → Prop), resList c e hp rs K →
    ∃ hs vs, K hs ∧ HVs g loc hs vs ∧ (rs.mapM (resOne a.tmps)).run P w = .ok vs w
  | [], K, h => ⟨[], [], h, by simp only [HVs], by simp⟩
  | r :: rs, K, h => by
    have one : oneRes c e hp r = .und ∨ ∃ v, ((resOne a.tmps) r).run P w = .ok v w ∧ HRel g loc (oneRes c e hp r) v := by
      cases r with
      | tmp t =>
        simp only [oneRes, resOne]
        cases hl : lk e t with
        | none => exact .inl rfl
        | some h => exact .inr ⟨_, by simp, F.base t h rfl hl⟩
      | cell x t =>
        simp only [oneRes]
        cases hv : vop c 0 (rho e [] []) hp 0 (.load t (.tmp x)) with
        | none => exact .inl rfl
        | some ef =>
          right
          have hkh : KeyHolds a.tmps [] := fun x hx => by simp at hx
          obtain ⟨v, h1, _, _, h2⟩ := s_load0 hC (fun x => rho_rel F hkh x) H.1 hv
          refine ⟨v, ?_, h2⟩
          simp only [Instr.loadAt, Instr.sureAddr, Act.eval] at h1
          show Sem.run P (asAddr (a.tmps.getD x undef) >>= fun ad => loadVar t ad) w = _
          rw [← h1]
          cases hx : a.tmps.getD x undef with
          | pointer o => 
            cases o with
            | some ad => rfl
            | none => rw [hx] at h1; simp [stuck] at h1
          | _ => rw [hx] at h1; simp [stuck] at h1
    have mk : oneRes c e hp r ≠ .und → (∀ l, oneRes c e hp r ≠ .tup l) → resList c e hp rs (fun l => K (oneRes c e hp r :: l)) → ∃ hs vs, K hs ∧ HVs g loc hs vs ∧ ((r :: rs).mapM (resOne a.tmps)).run P w = .ok vs w := by
      intro hu ht h'
      obtain ⟨v, h1, h2⟩ := one.resolve_left hu
      obtain ⟨hs, vs, k1, k2, k3⟩ := resList_sound hC F H rs _ h'
      refine ⟨_ :: hs, v :: vs, k1, ?_, ?_⟩
      · simp only [HVs]
        refine ⟨?_, k2⟩
        generalize oneRes c e hp r = hv at hu ht h2
        cases hv with
        | und => exact absurd rfl hu
        | tup l => exact absurd rfl (ht l)
        | _ => exact h2
      · rw [List.mapM_cons, Sem.run_bind]
        erw [h1]
        simp only [Result.andThen_ok, Sem.run_bind, k3, Sem.run_pure]
    rw [resList] at h
    split at h
    · exact h.elim
    · exact h.elim
    · rename_i hne1 hne2
      exact mk hne1 hne2 h

theorem retK_sound (hC : CtxOK P c) {B : Nat} {g : Ghost} {loc : Loc} {N : Nat} {e : Env} {hp : Hp} {nx : Nat} {a : Act} {w : World} (F : FRel B g loc N e [] a) (H : HeapN w0 hp nx g loc w) {fn : Func} {K : HV → Prop} (h : retK c e hp fn.results.toList K) :
    ∃ hv v, (results fn a.tmps).run P w = .ok v w ∧ K hv ∧ HRel g loc hv v := by
  obtain ⟨hs, vs, h1, h2, h3⟩ := resList_sound hC F H _ _ h
  have hr : (results fn a.tmps).run P w = .ok (if h : vs.toArray.size = 1 then vs.toArray[0] else .tuple vs.toArray) w := by
    rw [results_eq, Sem.run_bind]
    rw [Array.mapM_eq_mapM_toList, Sem.run_map, h3]
    simp
  split at h1
  · rename_i hv
    refine ⟨hv, _, hr, ?_⟩
    · cases vs with
      | nil => simp [HVs] at h2
      | cons v vs =>
        simp only [HVs] at h2
        cases vs with
        | cons => simp [HVs] at h2
        | nil =>
          refine ⟨h1, ?_⟩
          simp only [List.size_toArray, List.length_cons, List.length_nil, Nat.zero_add, List.getElem_toArray, List.getElem_cons_zero, dite_true]
          obtain ⟨us, h4, h5⟩ := h2.1
          cases hv with
          | und => simp [HC] at h4
          | tup => simp [HC] at h4
          | _ => exact ⟨us, h4, h5⟩
  · rename_i hne
    have hlen := HVs_length h2
    have h9 : vs.length ≠ 1 := by
      intro e9
      rw [e9] at hlen
      cases hs with
      | nil => simp at hlen
      | cons x l =>
        cases l with
        | nil => exact hne x rfl
        | cons => simp at hlen
    refine ⟨.tup hs, _, hr, h1, vs, h2, ?_⟩
    rw [dif_neg (by simpa using h9)]

theorem argEnv_lk : ∀ {hs : List HV} {i t : Nat} {h : HV}, lk (argEnv hs i) t = some h → ∃ j, t = i + j ∧ hs[j]? = some h
  | [], _, _, _, hl => by simp [argEnv, lk] at hl
  | x :: hs, i, t, h, hl => by
    simp only [argEnv] at hl
    rw [lk_cons] at hl
    split at hl
    · rename_i e; subst e; exact ⟨0, rfl, by simpa using hl⟩
    · obtain ⟨j, h1, h2⟩ := argEnv_lk hl
      exact ⟨j + 1, by omega, by simpa using h2⟩

theorem FRel.args {B : Nat} {g : Ghost} {loc : Loc} {hs : List HV} {vs : List Value} {N : Nat} (hr : ∀ (i : Nat) h v, hs[i]? = some h → vs[i]? = some v → HRel g loc h v) (hlen : hs.length = vs.length) (hle : hs.length ≤ N) :
    FRel B g loc N (argEnv hs 0) [] { tmps := vs.toArray ++ Array.replicate (N - vs.toArray.size) undef, defers := [] } where
  size := by simp; omega
  defers := trivial
  base := by
    intro t h _ hl
    obtain ⟨j, h1, h2⟩ := argEnv_lk hl
    have hj : j < hs.length := (List.getElem?_eq_some_iff.1 h2).1
    have hj' : j < vs.length := by omega
    have e : t = j := by omega
    subst e
    have h3 : (vs.toArray ++ Array.replicate (N - vs.toArray.size) undef).getD t undef = vs[t] := by
      simp [Array.getD_eq_getD_getElem?, Array.getElem?_append, hj']
    show HRel g loc h ((vs.toArray ++ Array.replicate (N - vs.toArray.size) undef).getD t undef)
    rw [h3]
    exact hr t h _ h2 (by simp [hj'])
  reg := fun t k h hl => by simp [lk] at hl
  keys := fun t k h hl => by simp [lk] at hl

/-- A mark's block is shut. -/
theorem HeapRel.shut {hp : Hp} {g : Ghost} {loc : Loc} {w : World} (H : HeapRel w0 hp g loc w) {b : Nat} (x o : Obj) (hb : g b = some x) (hx : ∀ cs T fr, x ≠ .cells cs T fr) (hw : w0.heap.size ≤ b) :
    HeapRel w0 hp (fun k => if k = b then none else g k) loc (w.putObj b o) where
  obj := by
    intro k vo h
    by_cases hl : vo.live = true
    · refine (H.obj k vo h).monoC (fun c cs T fr hc => ?_) (Loc.le_refl _) fun c y z h1 h2 h3 => ?_
      · by_cases e : c = b
        · subst e; rw [hb] at hc; simp only [Option.some.injEq] at hc; exact absurd hc (hx cs T fr)
        · simpa [e] using hc
      · rw [World.putObj_heap_other]
        · exact h3
        · intro e; subst e
          rw [H.sep k vo c y h hl h1 h2] at hb; cases hb
    · cases vo with
      | dead => trivial
      | _ => simp [VO.live] at hl
  inj := H.inj
  ghost := by
    intro c y h
    by_cases e : c = b
    · simp [e] at h
    · rw [World.putObj_heap_other e]
      exact H.ghost c y (by simpa [e] using h)
  sep := by
    intro k vo c y h1 h2 h3 h4
    have := H.sep k vo c y h1 h2 h3 h4
    simp [this]
  low := H.low
  ext := by
    intro c hc
    rw [World.putObj_heap_other (by omega)]; exact H.ext c hc
  size := by simpa using H.size
  old := by
    intro c y h hlt
    by_cases e : c = b
    · simp [e] at h
    · exact H.old c y (by simpa [e] using h) hlt
  still := H.still

theorem Marks.drop {B : Nat} {g : Ghost} {b : Nat} : ∀ {ds : List Deferred}, Marks B g ds → (∀ d' ∈ ds, d'.target ≠ .collected b) → Marks B (fun k => if k = b then none else g k) ds
  | [], _, _ => trivial
  | d :: ds, ⟨⟨k, h1, h2, h3, h4⟩, h⟩, hne => by
    refine ⟨⟨k, h1, h2, ?_, h4⟩, Marks.drop h fun d' hd => hne d' (List.mem_cons_of_mem _ hd)⟩
    have : k ≠ b := fun e => hne d (by simp) (by rw [h1, e])
    simpa [this] using h3

/-- On the way out the marks are taken. -/
theorem leave_sound {n B N : Nat} {e : Env} {hp : Hp} {nx : Nat} {loc : Loc} {fn : Func} {R : Ending → World → Prop} (hB : w0.heap.size ≤ B) {g0 : Ghost} (h0 : ∀ b x, g0 b = some x → b < B)
    {tmps : Array Value} : ∀ (ds : List Deferred) (g : Ghost) (w : World), FRel B g loc N e [] { tmps := tmps, defers := ds } → HeapN w0 hp nx g loc w → g0.le g →
    (∀ g' w', g0.le g' → FRel B g' loc N e [] { tmps := tmps, defers := [] } → HeapN w0 hp nx g' loc w' → ∃ v, (results fn tmps).run P w' = .ok v w' ∧ R (.returned v) w') →
    LeavesInM Fence.wide n P fn tmps R ds .returning w
  | [], g, w, F, H, hg, k => by
    obtain ⟨v, h1, h2⟩ := k g w hg F H
    exact ⟨v, h1, h2⟩
  | d :: ds, g, w, F, H, hg, k => by
    obtain ⟨⟨b, rfl, h2, h3, h4⟩, hM⟩ := F.defers
    refine ⟨by simp, .inl ⟨b, _, rfl, run_takeDeferred (H.1.ghost b _ h3), ?_⟩⟩
    have hc : g.leC (fun k => if k = b then none else g k) := by
      intro c cs T fr h
      by_cases e : c = b
      · subst e; rw [h3] at h; cases h
      · simpa [e] using h
    refine leave_sound hB h0 ds _ _ ⟨F.size, Marks.drop hM h4, fun t h k1 k2 => (F.base t h k1 k2).monoC hc (Loc.le_refl _), fun t k h hl => by simp [lk] at hl, fun t k h hl => by simp [lk] at hl⟩
      ⟨H.1.shut _ _ h3 (fun _ _ _ => by simp) (by omega), H.2⟩ (fun c x hx => ?_) k
    have : c ≠ b := by have := h0 c x hx; omega
    simpa [this] using hg c x hx

/-- Code that is walked through. -/
def VcOK (P : Program) (w0 : Base) (vc : Nat → Code → Env → Hp → Nat → (Exit → Env → Hp → Nat → Prop) → Prop) : Prop :=
  ∀ (N : Nat) (code : Code) (e : Env) (hp : Hp) (nx : Nat) (K : Exit → Env → Hp → Nat → Prop), vc N code e hp nx K → ∀ (B : Nat) (Fe : Fence) (fn : Nat), FOK Fe → ∀ g loc a w, FRel B g loc N e [] a → HeapN w0 hp nx g loc w → code.wpIn Fe fn P (Ends B w0 N K g loc) a w

theorem intoFun_sound (hC : CtxOK P c) {vc : Nat → Code → Env → Hp → Nat → (Exit → Env → Hp → Nat → Prop) → Prop} (hV : VcOK P w0 vc) {f : Nat} {F : Func} (hf : P.funcs[f]? = some F) {hs : List HV} {hp : Hp} {nx : Nat} {K : HV → Hp → Nat → Prop} {g : Ghost} {loc : Loc} {w : World} {vs : List Value}
    (h : intoFun c vc F hs hp nx K) (H : HeapN w0 hp nx g loc w) (hr : ∀ (i : Nat) h v, hs[i]? = some h → vs[i]? = some v → HRel g loc h v) (hlen : hs.length = vs.length) :
    Calls P f vs.toArray w fun e w' => ∃ v, e = .returned v ∧ ∃ h hp' nx' g' loc', K h hp' nx' ∧ g.le g' ∧ loc.le loc' ∧ HeapN w0 hp' nx' g' loc' w' ∧ HRel g' loc' h v := by
  unfold intoFun at h
  split at h
  · exact h.elim
  · rename_i b hb
    split at h
    · rename_i hle
      have hw := hV _ _ _ _ _ _ h w.heap.size Fence.wide 0 .wide g loc _ w (FRel.args hr hlen (Nat.le_of_ble_eq_true hle)) H
      have hlt : ∀ b x, g b = some x → b < w.heap.size := fun b x hx => (Array.getElem?_eq_some_iff.1 (H.1.ghost b x hx)).1
      refine callsIn_wide.1 (callsIn_of_wp_marks (n := 0) hf hb trivial (wpIn_mono hw ?_))
      rintro x a w' ⟨e', hp', nx', g', loc', h1, h2, h3, h4, h5⟩
      have fin : retK c e' hp' F.results.toList (fun h => K h hp' nx') → LeavesInM Fence.wide 0 P F a.tmps (fun e w' => ∃ v, e = .returned v ∧ ∃ h hp' nx' g' loc', K h hp' nx' ∧ g.le g' ∧ loc.le loc' ∧ HeapN w0 hp' nx' g' loc' w' ∧ HRel g' loc' h v) a.defers .returning w' := by
        intro h1
        refine leave_sound (w0 := w0) (g0 := g) H.1.size hlt a.defers g' w' h4 h5 h2 fun g2 w2 k1 k2 k3 => ?_
        obtain ⟨hv, v, m1, m2, m3⟩ := retK_sound hC k2 k3 h1
        exact ⟨v, m1, v, rfl, hv, hp', nx', g2, loc', m2, k1, h3, k3, m3⟩
      cases x with
      | normal => exact fin h1
      | ret => exact fin h1
      | _ => exact h1.elim
    · exact h.elim

theorem run_callFunc {f : Nat} {F : Func} (hf : P.funcs[f]? = some F) (hb : F.body.isSome = true) (hn : F.name ≠ "runtime.NumGoroutine") (vs : Array Value) (w : World) : (callFunc f vs).run P w = .ok (.enter f vs) w := by
  have h2 : F.body ≠ none := by cases hb' : F.body <;> simp_all
  simp [callFunc, hf, hn, h2]

theorem into_sound (hC : CtxOK P c) {vc : Nat → Code → Env → Hp → Nat → (Exit → Env → Hp → Nat → Prop) → Prop} (hV : VcOK P w0 vc) : InlOK P w0 (into c vc) := by
  intro f hs hp nx K g loc w vs h H hr hlen
  unfold into at h
  split at h
  · exact h.elim
  · rename_i F hF
    obtain ⟨h1, h2, h3⟩ := hC.funs _ _ hF
    rw [run_callFunc h1 h2 h3]
    exact intoFun_sound hC hV h1 h H hr hlen

theorem vcCode_sound (hC : CtxOK P c) (hm : P.follows .mixedOrders = true) : ∀ (fu : Nat), VcOK P w0 (vcCode c fu)
  | 0, N, code, e, hp, nx, K, h => h.elim
  | fu + 1, N, code, e, hp, nx, K, h => by
    have ih := vcCode_sound hC hm fu
    intro B Fe fn hFo g loc a w F H
    cases code with
    | skip => exact wpIn_skip ⟨e, hp, nx, g, loc, h, Ghost.le_refl g, Loc.le_refl loc, F, H⟩
    | region id ops draw =>
      simp only [vcCode] at h
      cases draw with
      | false =>
        simp only at h
        refine wpIn_region_list ?_
        have e1 : ops = ops.toList.toArray := by simp
        have := vcOps_sound (B := B) hFo (fn := fn) hC (into_sound hC ih) (Q := Ends B w0 N K g loc) ops.toList [] hp nx g loc a w h ⟨F.size, F.defers, F.base, fun t k h hl => by simp [lk] at hl, fun t k h hl => by simp [lk] at hl⟩ H ?_
        · rw [← e1] at this; exact this
        · intro re hp' nx' g' loc' a' w' hk hg hl F' H'
          rw [mergeK_eq] at hk
          exact ⟨_, _, _, g', loc', hk, hg, hl, merge_rel F', H'⟩
      | true =>
        simp only at h
        refine wpIn_region_any hm ?_
        let R0 : Nat → Rec := fun _ => ⟨none, [], .und, [], [], []⟩
        obtain ⟨R, hf, hK⟩ := vcDraw_facts ops.toList 0 [] R0 (by simp) (fun j hj => absurd hj (Nat.not_lt_zero j)) (fun j hj => absurd hj (Nat.not_lt_zero j)) (fun x hx => by simp at hx) h
        have hrep : ∀ j, (Array.replicate ops.size false).getD j false = false := fun j => by
          rw [Array.getD_eq_getD_getElem?, Array.getElem?_replicate]; split <;> rfl
        have e0 : ∀ (L : Nat → Bool), (∀ j, L j = false) → ∀ n, reAt R L n = [] ∧ rhAt R L n = [] := by
          intro L hL n
          induction n with
          | zero => exact ⟨rfl, rfl⟩
          | succ n ihn =>
            have hn : ¬ L n = true := by rw [hL n]; simp
            simp only [reAt, rhAt, if_neg hn]; exact ihn
        have hall := draw_any (B := B) (P := P) (w0 := w0) hFo (fn := fn) hC hf (Q := Ends B w0 N K g loc) (g0 := g) (loc0 := loc) ?_ ops.toList.length (Array.replicate ops.size false) a { w with drawn := w.drawn + 1 } g loc (by simp) ?_ (Ghost.le_refl g) (Loc.le_refl loc) ?_
        · have e1 : ops = ops.toList.toArray := by simp
          rw [← e1, ← Array.length_toList] at *
          exact hall
        · intro g' loc' a' w' hg hl D
          rw [mergeK_eq, mergeHK_eq] at hK
          refine ⟨_, _, _, g', loc', hK, hg, hl, merge_rel D.F, mergeH_rel D.H, ?_⟩
          intro o ho
          exact D.fresh o (by omega) fun i hi _ => by omega
        · rw [List.filter_eq_self.2 (fun j _ => by rw [hrep j]; rfl)]; simp
        · refine ⟨?_, ?_, ?_, ?_⟩
          · rw [(e0 _ hrep _).1]; exact F
          · rw [(e0 _ hrep _).2]; exact H.1.drew
          · intro o ho _; exact H.2 o ho
          · intro j oj _ hj; simp only [hrep] at hj; cases hj
    | seq x y =>
      simp only [vcCode] at h
      refine wpIn_seq (wpIn_mono (ih N x e hp nx _ h B Fe fn hFo g loc a w F H) ?_)
      rintro ex a' w' ⟨e', hp', nx', g', loc', h1, h2, h3, h4, h5⟩
      cases ex with
      | normal => exact wpIn_mono (ih N y e' hp' nx' K h1 B Fe fn hFo g' loc' a' w' h4 h5) fun _ _ _ q => q.mono h2 h3
      | _ => exact ⟨e', hp', nx', g', loc', h1, h2, h3, h4, h5⟩
    | cond x y z =>
      simp only [vcCode] at h
      split at h
      · rename_i d hd
        have hc := (hd ▸ rho_rel F (fun x hx => by simp at hx) x).bool
        exact wpIn_cond_split hc (fun ht => ih N y e hp nx K (h.1 ht) B Fe fn hFo g loc a w F H) (fun ht => ih N z e hp nx K (h.2 ht) B Fe fn hFo g loc a w F H)
      · exact h.elim
    | block id b =>
      simp only [vcCode] at h
      refine wpIn_block (wpIn_mono (ih N b e hp nx _ h B Fe fn hFo g loc a w F H) ?_)
      rintro ex a' w' ⟨e', hp', nx', g', loc', h1, h2, h3, h4, h5⟩
      cases ex with
      | exit j =>
        simp only [Exit.inBlock]
        simp only at h1
        split at h1
        · rename_i hj
          rw [if_pos (Nat.eq_of_beq_eq_true hj)]
          exact ⟨e', hp', nx', g', loc', h1, h2, h3, h4, h5⟩
        · rename_i hj
          rw [if_neg (fun e => by subst e; simp at hj)]
          exact ⟨e', hp', nx', g', loc', h1, h2, h3, h4, h5⟩
      | _ => exact ⟨e', hp', nx', g', loc', h1, h2, h3, h4, h5⟩
    | loop b =>
      simp only [vcCode] at h
      obtain ⟨X, mk, μ, x0, hc, hround⟩ := h
      have agree : ∀ loc', (∀ o, o < nx → loc' o = loc o) → loc.le loc' := fun loc' hl o x ho => by
        by_cases hlt : o < nx
        · rw [hl o hlt]; exact ho
        · rw [H.2 o (by omega)] at ho; cases ho
      obtain ⟨loc1, hl1, F1, H1⟩ := covers_rel hc F H
      refine wpIn_loop_ghost (fun n a w => ∃ x g' loc', μ x = n ∧ g.le g' ∧ loc.le loc' ∧ FRel B g' loc' N (mk x).1 [] a ∧ HeapN w0 (mk x).2.1 (mk x).2.2 g' loc' w) (μ x0) ⟨x0, g, loc1, rfl, Ghost.le_refl g, agree _ hl1, F1, H1⟩ ?_
      rintro n a' w' ⟨x, g', loc', rfl, hg, hl, F', H'⟩
      refine wpIn_mono (ih N b _ _ _ _ (hround x) B Fe fn hFo g' loc' a' w' F' H') ?_
      rintro ex a2 w2 ⟨e2, hp2, nx2, g2, loc2, k1, k2, k3, k4, k5⟩
      cases ex with
      | normal =>
        obtain ⟨x', hc', hlt⟩ := k1
        obtain ⟨loc3, hl3, F3, H3⟩ := covers_rel hc' k4 k5
        refine ⟨μ x', hlt, x', g2, loc3, rfl, Ghost.le_trans hg k2, ?_, F3, H3⟩
        intro o y ho
        have hlt : o < nx := by
          apply Classical.byContradiction; intro hn
          rw [H.2 o (by omega)] at ho; cases ho
        rw [hl3 o hlt]; exact k3 _ _ (hl _ _ ho)
      | _ => exact ⟨e2, hp2, nx2, g2, loc2, k1, Ghost.le_trans hg k2, Loc.le_trans hl k3, k4, k5⟩
    | exit j => exact wpIn_exit ⟨e, hp, nx, g, loc, h, Ghost.le_refl g, Loc.le_refl loc, F, H⟩
    | ret => exact wpIn_ret ⟨e, hp, nx, g, loc, h, Ghost.le_refl g, Loc.le_refl loc, F, H⟩
    | _ => exact h.elim
end
end Go.Vm
