/- A function's account, out of what the evaluator has shown. -/
import Derived.Test.YtjcfnooplhoheaaVnA
noncomputable section
namespace Go.Vm
open Go
open Classical
set_option linter.unusedSimpArgs false

/-- What bears the datum d' bears the datum d. -/
def Bears (s : Sh) (d' d : D) : Prop := ∀ g vs, Rel g s d' vs → Rel g s d vs
theorem Bears.rfl {s : Sh} {d : D} : Bears s d d := fun _ _ h => h
theorem Bears.of_eq {s : Sh} {d' d : D} (h : d' = d) : Bears s d' d := by subst h; exact Bears.rfl
theorem Bears.bool {d' d : D} (h : d'.bool = d.bool) : Bears .bool d' d := fun g vs hr => by simp only [Rel] at hr ⊢; rw [← h]; exact hr
theorem Bears.int {k : IntKind} {d' d : D} (h : d'.int = d.int) : Bears (.int k) d' d := fun g vs hr => by simp only [Rel] at hr ⊢; rw [← h]; exact hr

mutual
/-- What is handed back is what the account says. -/
def resOK (hp : Hp) (hv : HV) : HV → Prop
  | .dat s d => match argD hp s hv with
    | some d' => Bears s d' d
    | none => False
  | .gptr s d => match hv with
    | .ptr o r [] s' => match lk hp o with
      | some (.box s0 v) => match s0.beq s && s'.beq s && r.beq s with
        | true => match argD hp s v with
          | some d' => Bears s d' d
          | none => False
        | false => False
      | _ => False
    | _ => False
  | .tup rs => match hv with
    | .tup hs => resOKs hp hs rs
    | _ => False
  | .fn f rs => match hv with
    | .fn f' hs => f' = f ∧ resOKs hp hs rs
    | _ => False
  | _ => False
def resOKs (hp : Hp) : List HV → List HV → Prop
  | [], [] => True
  | h :: hs, .dat s d :: rs => (match argD hp s h with
    | some d' => Bears s d' d
    | none => False) ∧ resOKs hp hs rs
  | h :: hs, .gptr s d :: rs => (match h with
    | .ptr o r [] s' => match lk hp o with
      | some (.box s0 v) => match s0.beq s && s'.beq s && r.beq s with
        | true => match argD hp s v with
          | some d' => Bears s d' d
          | none => False
        | false => False
      | _ => False
    | _ => False) ∧ resOKs hp hs rs
  | _, _ => False
end

def argAll : List Sh → (List D → Prop) → Prop
  | [], K => K []
  | s :: ss, K => ∀ d, InR s d → argAll ss fun ds => K (d :: ds)

def zipDat : List Sh → List D → List HV
  | s :: ss, d :: ds => norm (.dat s d) :: zipDat ss ds
  | _, _ => []

section
variable {P : Program} {c : Ctx} {w0 : Base} {hp : Hp} {g : Ghost} {loc : Loc} {w : World}

theorem bears_hrel {G : Ghost} {s : Sh} {d' d : D} {v : Value} (hb : Bears s d' d) (h : HRel G (fun _ => none) (.dat s d') v) : HRel G (fun _ => none) (.dat s d) v := by
  obtain ⟨us, h1, h2⟩ := HRel.dat_iff.1 h
  exact HRel.dat_iff.2 ⟨us, hb _ _ h1, h2⟩

theorem res_dat {G : Ghost} (HT : Takes hp g loc w G (fun _ => True)) (H : HeapRel w0 hp g loc w) {hv : HV} {s : Sh} {d : D} {v : Value} (h : match argD hp s hv with
    | some d' => Bears s d' d
    | none => False) (hr : HRel g loc hv v) : HRel G (fun _ => none) (.dat s d) v := by
  split at h
  · rename_i d' hd
    exact bears_hrel h (argD_hrel HT H (ownP_true _) hd hr)
  · exact h.elim

theorem res_gptr {G : Ghost} (HT : Takes hp g loc w G (fun _ => True)) (H : HeapRel w0 hp g loc w) {hv : HV} {s : Sh} {d : D} {v : Value} (h : match hv with
    | .ptr o r [] s' => match lk hp o with
      | some (.box s0 v) => match s0.beq s && s'.beq s && r.beq s with
        | true => match argD hp s v with
          | some d' => Bears s d' d
          | none => False
        | false => False
      | _ => False
    | _ => False) (hr : HRel g loc hv v) : HRel G (fun _ => none) (.gptr s d) v := by
  split at h
  · rename_i o r s'
    split at h
    · rename_i s0 vb ho
      split at h
      · rename_i hb
        simp only [Bool.and_eq_true] at hb
        obtain ⟨⟨e1, e2⟩, e3⟩ := hb
        have := Sh.beq_eq e1; subst this
        have := Sh.beq_eq e2; subst this
        have := Sh.beq_eq e3; subst this
        split at h
        · rename_i d' hd
          obtain ⟨b, cap, len, off, h1, h2, h3, h4⟩ := hr.ptr
          simp only [Sh.navs, Option.some.injEq, Prod.mk.injEq] at h2
          obtain ⟨_, rfl⟩ := h2
          obtain ⟨b', cap', len', T, vs, k1, k2, k3, k4, k5⟩ := H.obj o _ ho
          rw [h1] at k1
          simp only [Option.some.injEq, Place.at.injEq] at k1
          obtain ⟨rfl, rfl, rfl, _⟩ := k1
          refine ⟨[v], ?_, by simp [HV.agg, mkV]⟩
          simp only [HC]
          refine ⟨b, 0, vs, T, (0, 0), HT.ob o _ b _ _ trivial ho rfl h1 rfl k2, by omega, ?_, by rw [h4]⟩
          have : chunk vs.toList 0 r.size = vs.toList := by
            rw [← k3]; simp only [chunk, List.drop_zero]; exact List.take_of_length_le (by simp)
          rw [this]
          exact h _ _ (argD_rel HT H vb r d' _ (ownP_true _) hd k5)
        · exact h.elim
      · exact h.elim
    · exact h.elim
  · exact h.elim

theorem hrel_hvs {G : Ghost} {l : Loc} {h : HV} {v : Value} (hd : (∃ s d, h = .dat s d) ∨ ∃ s d, h = .gptr s d) (hr : HRel G l h v) : ∃ us, HC G l h us ∧ v = mkV h.agg us := by
  rcases hd with ⟨s, d, rfl⟩ | ⟨s, d, rfl⟩ <;> exact hr

theorem res_list {G : Ghost} (HT : Takes hp g loc w G (fun _ => True)) (H : HeapRel w0 hp g loc w) : ∀ {hs rs : List HV} {vs : List Value}, resOKs hp hs rs → HVs g loc hs vs → HVs G (fun _ => none) rs vs
  | [], [], [], _, _ => by simp only [HVs]
  | h :: hs, r :: rs, v :: vs, ho, hv => by
    simp only [HVs] at hv ⊢
    have hr : HRel g loc h v := by
      obtain ⟨us, h1, h2⟩ := hv.1
      cases h with
      | und => exact trivial
      | tup => simp [HC] at h1
      | _ => exact ⟨us, h1, h2⟩
    cases r with
    | dat s d =>
      simp only [resOKs] at ho
      exact ⟨hrel_hvs (.inl ⟨_, _, rfl⟩) (res_dat HT H ho.1 hr), res_list HT H ho.2 hv.2⟩
    | gptr s d =>
      simp only [resOKs] at ho
      exact ⟨hrel_hvs (.inr ⟨_, _, rfl⟩) (res_gptr HT H ho.1 hr), res_list HT H ho.2 hv.2⟩
    | _ => simp [resOKs] at ho
  | [], _ :: _, _, h, _ => by simp [resOKs] at h
  | _ :: _, [], _, h, _ => by simp [resOKs] at h
  | [], [], _ :: _, _, h => by simp [HVs] at h
  | _ :: _, _ :: _, [], _, h => by simp [HVs] at h

theorem resOK_sound {G : Ghost} (HT : Takes hp g loc w G (fun _ => True)) (H : HeapRel w0 hp g loc w) {hv r : HV} {v : Value} (h : resOK hp hv r) (hr : HRel g loc hv v) : HRel G (fun _ => none) r v := by
  cases r with
  | dat s d => simp only [resOK] at h; exact res_dat HT H h hr
  | gptr s d => simp only [resOK] at h; exact res_gptr HT H h hr
  | tup rs =>
    simp only [resOK] at h
    split at h
    · obtain ⟨vs, h1, h2⟩ := hr
      exact ⟨vs, res_list HT H h h1, h2⟩
    · exact h.elim
  | fn f rs =>
    simp only [resOK] at h
    split at h
    · obtain ⟨rfl, h⟩ := h
      obtain ⟨us, h1, h2⟩ := hr
      simp only [HC] at h1
      obtain ⟨cs, h3, rfl⟩ := h1
      refine ⟨_, ?_, h2⟩
      simp only [HC]
      exact ⟨cs, res_list HT H h h3, rfl⟩
    · exact h.elim
  | _ => simp [resOK] at h

theorem argAll_of {g : Ghost} : ∀ {ss : List Sh} {ds : List D} {vs : List Value} {K : List D → Prop}, ArgsRel g ss ds vs → argAll ss K → K ds
  | [], [], [], _, _, h => h
  | s :: ss, d :: ds, v :: vs, K, ha, h => by
    simp only [ArgsRel] at ha
    obtain ⟨us, h1, _⟩ := HRel.dat_iff.1 ha.1
    exact argAll_of (K := fun ds => K (d :: ds)) ha.2 (h d h1.inR)
  | [], [], _ :: _, _, h, _ => by simp [ArgsRel] at h
  | [], _ :: _, _, _, h, _ => by simp [ArgsRel] at h
  | _ :: _, [], _, _, h, _ => by simp [ArgsRel] at h
  | _ :: _, _ :: _, [], _, h, _ => by simp [ArgsRel] at h

theorem zipDat_args {g : Ghost} {l : Loc} : ∀ {ss : List Sh} {ds : List D} {vs : List Value}, ArgsRel g ss ds vs → (zipDat ss ds).length = vs.length ∧ ∀ (i : Nat) h v, (zipDat ss ds)[i]? = some h → vs[i]? = some v → HRel g l h v
  | [], [], [], _ => ⟨rfl, fun i h v h1 => by simp [zipDat] at h1⟩
  | s :: ss, d :: ds, v :: vs, ha => by
    simp only [ArgsRel] at ha
    obtain ⟨i1, i2⟩ := zipDat_args (l := l) ha.2
    refine ⟨by simp [zipDat, i1], fun i h v' h1 h2 => ?_⟩
    cases i with
    | zero =>
      simp only [zipDat, List.getElem?_cons_zero, Option.some.injEq] at h1 h2
      subst h1; subst h2
      exact norm_rel (ha.1.mono (Ghost.le_refl g) (fun o x h => by cases h))
    | succ i => exact i2 i h v' (by simpa [zipDat] using h1) (by simpa using h2)
  | [], [], _ :: _, h => by simp [ArgsRel] at h
  | [], _ :: _, _, h => by simp [ArgsRel] at h
  | _ :: _, [], _, h => by simp [ArgsRel] at h
  | _ :: _, _ :: _, [], h => by simp [ArgsRel] at h

/-- What is to be shown of a function. -/
def FunOK (c : Ctx) (fu : Nat) (F : Func) (S : Sum) : Prop := argAll S.shs fun ds => holds (S.pre ds) → vcFun c fu F (zipDat S.shs ds) [] 0 fun hv hp _ => resOK hp hv (S.res ds)

/-- **A function's account.** -/
theorem sumOK_of_vc (hC : CtxOK P c) (hm : P.follows .mixedOrders = true) {f : Nat} {F : Func} {S : Sum} {fu : Nat} (hf : P.funcs[f]? = some F) (hb : F.body.isSome = true) (hn : F.name ≠ "runtime.NumGoroutine")
    (h : FunOK c fu F S) : SumOK P f S := by
  intro g w ds vs hg ha hpre
  rw [run_callFunc hf hb hn]
  have h1 := argAll_of ha h hpre
  obtain ⟨hlen, hargs⟩ := zipDat_args (l := fun _ => none) ha
  have H0 : HeapN ⟨w.heap, g, w.os, w.output, fun _ => false⟩ [] 0 g (fun _ => none) w := ⟨⟨fun o vo h => by simp [lk] at h, fun o o' vo vo' b x x' h => by simp [lk] at h, hg, fun o vo b x h => by simp [lk] at h, fun o vo b x h => by simp [lk] at h, fun b _ _ => rfl, Nat.le_refl _, fun b x h _ _ => h, rfl, rfl⟩, fun _ _ => rfl⟩
  refine (intoFun_sound hC (vcCode_sound hC hm fu [] false) hf (fun o h hlk => by simp [lk] at hlk) h1 H0 hargs hlen).mono ?_
  rintro e w' ⟨v, rfl, hv, hp', nx', g', loc', k1, k2, k3, ⟨k4, _⟩, k5⟩
  refine ⟨v, rfl, ?_⟩
  let G : Ghost := fun b => if b < w.heap.size then g b else w'.heap[b]?
  have HT : Takes hp' g' loc' w' G (fun _ => True) := by
    constructor
    · intro b x hx
      show (if b < w.heap.size then g b else w'.heap[b]?) = some x
      split
      · rename_i hlt; exact k4.old b x hx hlt rfl
      · exact k4.ghost b x hx
    · intro o vo b x y _ h1 h2 h3 h4 h5
      have := (k4.low o vo b x h1 h2 h3 h4).resolve_left (fun h => by cases h)
      show (if b < w.heap.size then g b else w'.heap[b]?) = some y
      rw [if_neg (Nat.not_lt.2 this)]
      exact h5
  refine ⟨G, ?_, ?_, ?_, ⟨k4.size, fun b hb => k4.ext b hb rfl, k4.still⟩, resOK_sound HT k4 k1 k5⟩
  · exact Ghost.le_trans k2 HT.gh
  · intro b x hx
    by_cases hlt : b < w.heap.size
    · left; simpa [G, hlt] using hx
    · right; omega
  · intro b x hx
    by_cases hlt : b < w.heap.size
    · have hx' : g b = some x := by simpa [G, hlt] using hx
      have := hg b x hx'
      rw [k4.ext b hlt rfl]; exact this
    · simpa [G, hlt] using hx
end
end Go.Vm
