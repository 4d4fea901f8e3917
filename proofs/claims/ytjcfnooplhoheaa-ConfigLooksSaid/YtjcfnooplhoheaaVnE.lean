/- The account of a function that writes into a slice of its caller's. -/
import Derived.Test.YtjcfnooplhoheaaVnD
noncomputable section
namespace Go.Vm
open Go
open Classical
set_option linter.unusedSimpArgs false

/-- What is given besides the slice. -/
def mpAll : List MP → (List D → List HV → Prop) → Prop
  | [], K => K [] []
  | .dat s :: ps, K => ∀ d, InR s d → mpAll ps fun ds hs => K (d :: ds) (norm (.dat s d) :: hs)
  | .fn n :: ps, K => mpAll ps fun ds hs => K ds (.fn n [] :: hs)

def BearsL (s : Sh) (ys zs : List D) : Prop := ys.length = zs.length ∧ ∀ j, j < ys.length → Bears s (ys.getD j .Z) (zs.getD j .Z)

/-- What is to be shown of such a function. -/
def FunMOK (c : Ctx) (fu : Nat) (F : Func) (M : MSum) : Prop := ∀ xs : List D, InR (.slice M.s) (.L xs) → mpAll M.pats fun ds hs => holds (M.pre xs ds) →
  vcFun c fu F (.own 0 M.s :: hs) [(0, .grow M.s xs)] 1 fun hv hp _ => (match lk hp 0 with
    | some (.grow s ys) => s.beq M.s = true ∧ BearsL M.s ys (M.out xs ds)
    | _ => False) ∧ resOK hp hv (M.res xs ds)

theorem mpAll_of {g : Ghost} : ∀ {ps : List MP} {ds : List D} {vs : List Value} {K : List D → List HV → Prop}, MArgs g ps ds vs → mpAll ps K →
    ∃ hs, K ds hs ∧ hs.length = vs.length ∧ ∀ (l : Loc) (i : Nat) h v, hs[i]? = some h → vs[i]? = some v → HRel g l h v
  | [], [], [], _, _, h => ⟨[], h, rfl, fun _ i h v h1 => by simp at h1⟩
  | .dat s :: ps, d :: ds, v :: vs, K, ha, h => by
    simp only [MArgs] at ha
    obtain ⟨us, h1, _⟩ := HRel.dat_iff.1 ha.1
    obtain ⟨hs, k1, k2, k3⟩ := mpAll_of (K := fun ds hs => K (d :: ds) (norm (.dat s d) :: hs)) ha.2 (h d h1.inR)
    refine ⟨_, k1, by simp [k2], fun l i h v' h1 h2 => ?_⟩
    cases i with
    | zero =>
      simp only [List.getElem?_cons_zero, Option.some.injEq] at h1 h2
      subst h1; subst h2
      exact norm_rel (ha.1.mono (Ghost.le_refl g) (fun o x h => by cases h))
    | succ i => exact k3 l i h v' (by simpa using h1) (by simpa using h2)
  | .fn n :: ps, ds, v :: vs, K, ha, h => by
    simp only [MArgs] at ha
    obtain ⟨hs, k1, k2, k3⟩ := mpAll_of (K := fun ds hs => K ds (.fn n [] :: hs)) ha.2 h
    refine ⟨_, k1, by simp [k2], fun l i h v' h1 h2 => ?_⟩
    cases i with
    | zero =>
      simp only [List.getElem?_cons_zero, Option.some.injEq] at h1 h2
      subst h1; subst h2
      rw [ha.1]
      refine ⟨[.func (.func n) #[] #[]], ?_, rfl⟩
      simp only [HC]
      exact ⟨[], by simp only [HVs], rfl⟩
    | succ i => exact k3 l i h v' (by simpa using h1) (by simpa using h2)
  | [], [], _ :: _, _, h, _ => by simp [MArgs] at h
  | [], _ :: _, _, _, h, _ => by simp [MArgs] at h
  | .dat _ :: _, [], _, _, h, _ => by simp [MArgs] at h
  | .dat _ :: _, _ :: _, [], _, h, _ => by simp [MArgs] at h
  | .fn _ :: _, _, [], _, h, _ => by simp [MArgs] at h

section
variable {P : Program} {c : Ctx}

theorem mutOK_of_vc (hC : CtxOK P c) (hm : P.follows .mixedOrders = true) {f : Nat} {F : Func} {M : MSum} {fu : Nat} (hf : P.funcs[f]? = some F) (hb : F.body.isSome = true) (hn : F.name ≠ "runtime.NumGoroutine")
    (h : FunMOK c fu F M) : MutOK P f M := by
  intro g w x xs ds v0 vs hg hgx hO h0 ha hpre
  rw [run_callFunc hf hb hn]
  have l0 : loc1 x 0 = some x := by simp [loc1]
  have hin : InR (.slice M.s) (.L xs) := by
    simp only [InR, D.list]
    rcases hO with ⟨_, rfl⟩ | ⟨b, cap, T, cs, _, _, _, k4, k5⟩
    · exact ⟨by simp, fun j hj => by simp at hj⟩
    · exact ⟨by omega, fun j hj => (k5 j hj).inR⟩
  obtain ⟨hs, h1, h2, h3⟩ := mpAll_of ha (h xs hin)
  have H0 : HeapN ⟨w.heap, g, w.os, w.output, fun b => decide (x.blk = some b)⟩ [(0, .grow M.s xs)] 1 g (loc1 x) w := by
    have one : ∀ o vo, lk [(0, VO.grow M.s xs)] o = some vo → o = 0 ∧ vo = .grow M.s xs := by
      intro o vo h
      rw [lk_cons] at h
      split at h
      · rename_i e; simp only [Option.some.injEq] at h; exact ⟨e.symm, h.symm⟩
      · simp [lk] at h
    refine ⟨⟨?_, ?_, hg, ?_, ?_, fun b _ _ => rfl, Nat.le_refl _, fun b x h _ _ => h, rfl, rfl⟩, ?_⟩
    · intro o vo h
      obtain ⟨rfl, rfl⟩ := one o vo h
      exact hO
    · intro o o' vo vo' b y y' h h' _ _ _ _ _ _
      rw [(one o vo h).1, (one o' vo' h').1]
    · intro o vo b y h _ e hb
      obtain ⟨rfl, _⟩ := one o vo h
      rw [l0] at e
      simp only [Option.some.injEq] at e; subst e
      exact hgx b hb
    · intro o vo b y h _ e hb
      obtain ⟨rfl, _⟩ := one o vo h
      rw [l0] at e
      simp only [Option.some.injEq] at e; subst e
      exact .inl (by simp [hb])
    · intro o ho
      simp only [loc1]
      rw [if_neg (by omega)]
  refine (intoFun_sound hC (vcCode_sound hC hm fu [] false) hf (fun o h hlk => by simp [lk] at hlk) (h1 hpre) H0 (vs := v0 :: vs) ?_ (by simp [h2])).mono ?_
  · intro i h v k1 k2
    cases i with
    | zero =>
      simp only [List.getElem?_cons_zero, Option.some.injEq] at k1 k2
      subst k1; subst k2; exact h0
    | succ i => exact h3 _ i h v (by simpa using k1) (by simpa using k2)
  rintro e w' ⟨v, rfl, hv, hp', nx', g', loc', k1, k2, k3, ⟨k4, _⟩, k5⟩
  refine ⟨v, rfl, k4.size, fun k hk hne => ?_, k4.still, ?_, ?_⟩
  · exact k4.ext k hk (by simp [hne])
  · have hend := k1.1
    split at hend
    · rename_i s ys hl
      have := Sh.beq_eq hend.1; subst this
      have hx' : loc' 0 = some x := k3 _ _ l0
      refine ⟨g', ?_⟩
      rcases k4.obj 0 _ hl with ⟨m1, m2⟩ | ⟨b, cap, T, cs, m1, m2, m3, m4, m5⟩
      · rw [hx'] at m1
        refine .inl ⟨by rw [l0]; exact m1, List.eq_nil_of_length_eq_zero (by rw [← hend.2.1, m2]; rfl)⟩
      · rw [hx'] at m1
        refine .inr ⟨b, cap, T, cs, by rw [l0, ← hend.2.1]; exact m1, m2, m3, by rw [← hend.2.1]; exact m4, fun j hj => ?_⟩
        rw [← hend.2.1] at hj
        exact hend.2.2 j hj _ _ (m5 j hj)
    · exact hend.elim
  · exact ⟨_, resOK_sound (Takes.whole k4) k4 k1.2 k5⟩

/-- A context with functions that write into their callers' slices. -/
theorem CtxOK.withM {c : Ctx} (h : CtxOK P c) {f : Nat} {M : MSum} (hM : MutOK P f M) : CtxOK P { c with maps := (f + 1000000, .msum M) :: c.maps } where
  tab := h.tab
  refs := h.refs
  sums := h.sums
  maps := by
    intro t m hl
    rw [lk_cons] at hl
    split at hl
    · rename_i e
      simp only [Option.some.injEq] at hl; subst hl
      exact ⟨f, e.symm, hM⟩
    · exact h.maps t m hl
  funs := h.funs
end
end Go.Vm
