/- What the evaluator makes of one operation is what the model does: part 1. -/
import Derived.Test.YtjcfnooplhoheaaVmJ
noncomputable section
namespace Go.Vm
open Go

/-- What an operation's run comes to: a value, or a call that hands one back. -/
def OpWp (P : Program) (K : Value → World → Prop) : Result Next → Prop
  | .ok (.value v) w' => K v w'
  | .ok .skip w' => K undef w'
  | .ok (.enter f args) w' => Calls P f args w' (fun e w'' => ∃ v, e = .returned v ∧ K v w'')
  | .ok (.round l f tmps assign body) w' => ∀ n, RoundIn Fence.wide n P l f tmps assign body w' (fun e w'' => ∃ v, e = .returned v ∧ K v w'')
  | _ => False

/-- The fences that the evaluator speaks of: none, and none within a round. -/
inductive FOK : Fence → Prop
  | wide : FOK Fence.wide
  | round (l : Nat) : FOK (Fence.wide.inRound l)

theorem FOK.fn {F : Fence} (h : FOK F) (f : FuncId) : F.fn f := by cases h <;> trivial
theorem FOK.calls {F : Fence} (h : FOK F) {n : Nat} {P : Program} {f : FuncId} {args : Array Value} {w : World} {R : Ending → World → Prop} (hc : Calls P f args w R) : CallsIn F n P f args w R := by
  cases h with
  | wide => exact callsIn_wide.2 hc
  | round l => exact callsIn_wide.2 hc
theorem FOK.rounds {F : Fence} (h : FOK F) {n l : Nat} {P : Program} {f : FuncId} {tmps : Array Value} {x y : Code} {w : World} {R : Ending → World → Prop} (hc : RoundIn Fence.wide n P l f tmps x y w R) : RoundIn F n P l f tmps x y w R := by
  cases h with
  | wide => exact hc
  | round l => exact hc
theorem FOK.depth {F : Fence} (h : FOK F) {p : Prop} : F.depth.isSome = true → p := by
  cases h <;> intro h <;> cases h

theorem OpWp.mono {P : Program} {K K' : Value → World → Prop} (hk : ∀ v w, K v w → K' v w) {r : Result Next} (h : OpWp P K r) : OpWp P K' r := by
  cases r with
  | ok n w => cases n <;> simp only [OpWp] at h ⊢ <;> first | exact hk _ _ h | exact h.mono fun e w'' ⟨v, h1, h2⟩ => ⟨v, h1, hk _ _ h2⟩ | exact fun n => (h n).mono fun e w'' ⟨v, h1, h2⟩ => ⟨v, h1, hk _ _ h2⟩
  | halt x w => simp only [OpWp] at h

def ArgsRel (g : Ghost) : List Sh → List D → List Value → Prop
  | [], [], [] => True
  | s :: ss, d :: ds, v :: vs => HRel g (fun _ => none) (.dat s d) v ∧ ArgsRel g ss ds vs
  | _, _, _ => False

/-- A summary is right. -/
def SumOK (P : Program) (f : Nat) (S : Sum) : Prop := ∀ (g : Ghost) (w : World) (ds : List D) (vs : List Value), (∀ b x, g b = some x → w.heap[b]? = some x) → ArgsRel g S.shs ds vs → holds (S.pre ds) →
  OpWp P (fun v w' => ∃ g', g.le g' ∧ (∀ b x, g' b = some x → g b = some x ∨ w.heap.size ≤ b) ∧ (∀ b x, g' b = some x → w'.heap[b]? = some x) ∧ ExtAll w w' ∧ HRel g' (fun _ => none) (S.res ds) v)
    ((callFunc f vs.toArray).run P w)

def MArgs (g : Ghost) : List MP → List D → List Value → Prop
  | [], [], [] => True
  | .dat s :: ps, d :: ds, v :: vs => HRel g (fun _ => none) (.dat s d) v ∧ MArgs g ps ds vs
  | .fn n :: ps, ds, v :: vs => v = .func (.func n) #[] #[] ∧ MArgs g ps ds vs
  | _, _, _ => False
def loc1 (x : Place) : Loc := fun o => if o = 0 then some x else none
/-- A summary of a function that writes into a slice of its caller's is right. -/
def MutOK (P : Program) (f : Nat) (M : MSum) : Prop := ∀ (g : Ghost) (w : World) (x : Place) (xs ds : List D) (v0 : Value) (vs : List Value), (∀ b y, g b = some y → w.heap[b]? = some y) → (∀ b, x.blk = some b → g b = none) →
  ORel g (loc1 x) w 0 (.grow M.s xs) → HRel g (loc1 x) (.own 0 M.s) v0 → MArgs g M.pats ds vs → holds (M.pre xs ds) →
  OpWp P (fun v w' => w.heap.size ≤ w'.heap.size ∧ (∀ k, k < w.heap.size → x.blk ≠ some k → w'.heap[k]? = w.heap[k]?) ∧ (w'.os = w.os ∧ w'.output = w.output) ∧ (∃ G, ORel G (loc1 x) w' 0 (.grow M.s (M.out xs ds))) ∧ ∃ G, HRel G (fun _ => none) (M.res xs ds) v)
    ((callFunc f (v0 :: vs).toArray).run P w)

/-- A map's type, a type of slices of functions. -/
def MapOK (P : Program) (t : TypeId) : MI → Prop
  | .map ks vs => ∃ k e, P.underlying t = some (.map k e) ∧ Lay P ks k ∧ Lay P vs e ∧ vs.data = true
  | .vec => ∃ e z, P.underlying t = some (.slice e) ∧ RefLay P e z
  | .msum M => ∃ f, t = f + 1000000 ∧ MutOK P f M

structure CtxOK (P : Program) (c : Ctx) : Prop where
  tab : ∀ t s, lk c.tab t = some s → Lay P s t ∧ s.data = true
  refs : ∀ t z, lk c.refs t = some z → RefLay P t z
  sums : ∀ f S, lk c.sums f = some S → SumOK P f S
  maps : ∀ t m, lk c.maps t = some m → MapOK P t m
  funs : ∀ f F, lk c.funs f = some F → P.funcs[f]? = some F ∧ F.body.isSome = true ∧ F.name ≠ "runtime.NumGoroutine"

mutual
/-- Flat data lead nowhere: whatever the ghost. -/
theorem Rel.flat {g g' : Ghost} : ∀ {s : Sh} {d : D} {vs : List Value}, s.flat = true → Rel g s d vs → Rel g' s d vs
  | .int _, _, _, _, h => by simp only [Rel] at h ⊢; exact h
  | .bool, _, _, _, h => by simp only [Rel] at h ⊢; exact h
  | .str, _, _, _, h => by simp only [Rel] at h ⊢; exact h
  | .struct ss, _, _, hf, h => by simp only [Rel] at h ⊢; exact Rels.flat (by simpa [Sh.flat] using hf) h
  | .arr n s, _, _, hf, h => by
    simp only [Rel] at h ⊢
    exact ⟨h.1, fun j hj => Rel.flat (by simpa [Sh.flat] using hf) (h.2 j hj)⟩
  | .slice s, _, _, hf, _ => by simp [Sh.flat] at hf
  | .ref, _, _, hf, _ => by simp [Sh.flat] at hf
theorem Rels.flat {g g' : Ghost} : ∀ {ss : List Sh} {i : Nat} {d : D} {vs : List Value}, Sh.flats ss = true → Rels g ss i d vs → Rels g' ss i d vs
  | [], _, _, _, _, h => by simp only [Rels] at h ⊢; exact h
  | s :: ss, _, _, _, hf, h => by
    simp only [Sh.flats, Bool.and_eq_true] at hf
    simp only [Rels] at h ⊢
    exact ⟨h.1, Rel.flat hf.1 h.2.1, Rels.flat hf.2 h.2.2⟩
end

section
variable {P : Program} {c : Ctx} {g : Ghost} {loc : Loc} {w0 : Base} {w : World} {hp : Hp} {nx : Nat}

/-- Everything that lies in the world. -/
def whole (w : World) : Ghost := fun b => w.heap[b]?

/-- A slice of one's own is given away: it lies among what does not change from now on. -/
def frzG (g : Ghost) (loc : Loc) (w : World) (o : Nat) : Ghost := fun b => match loc o with
  | some x => if x.blk = some b then w.heap[b]? else g b
  | none => g b
theorem HeapRel.freeze (H : HeapRel w0 hp g loc w) {o : Nat} {s : Sh} {xs : List D} (ho : lk hp o = some (.grow s xs)) :
    HeapRel w0 ((o, .froz s xs) :: hp) (frzG g loc w o) loc w ∧ g.le (frzG g loc w o) ∧ ∀ b x y, loc o = some x → x.blk = some b → w.heap[b]? = some y → frzG g loc w o b = some y := by
  have hle : g.le (frzG g loc w o) := by
    intro b x hx
    unfold frzG
    split
    · split
      · exact H.ghost b x hx
      · exact hx
    · exact hx
  have hnew : ∀ b x, frzG g loc w o b = some x → g b = some x ∨ ∃ p, loc o = some p ∧ p.blk = some b ∧ w.heap[b]? = some x := by
    intro b x hx
    unfold frzG at hx
    split at hx
    · rename_i p hp'
      split at hx
      · rename_i hb; exact .inr ⟨p, hp', hb, hx⟩
      · exact .inl hx
    · exact .inl hx
  have hlive : (VO.grow s xs).live = true := rfl
  have hsub : ∀ o' vo, lk ((o, VO.froz s xs) :: hp) o' = some vo → vo.live = true → lk hp o' = some vo ∧ o' ≠ o := by
    intro o' vo h hl
    rw [lk_cons] at h
    split at h
    · simp only [Option.some.injEq] at h; subst h; cases hl
    · rename_i hne; exact ⟨h, fun e => hne e.symm⟩
  refine ⟨⟨?_, ?_, ?_, ?_, ?_, H.ext, H.size, ?_, H.still⟩, hle, ?_⟩
  · intro o' vo h
    rw [lk_cons] at h
    split at h
    · rename_i e
      simp only [Option.some.injEq] at h; subst h; subst e
      rcases H.obj o _ ho with ⟨k1, k2⟩ | ⟨b, cap, T, cs, k1, k2, k3, k4, k5⟩
      · exact .inl ⟨k1, k2⟩
      · refine .inr ⟨b, cap, T, cs, k1, ?_, k3, k4, fun j hj => (k5 j hj).mono hle⟩
        unfold frzG; rw [k1]; simp only [Place.blk, if_true]; exact k2
    · exact (H.obj o' vo h).mono hle (Loc.le_refl _) fun b x y _ _ hx => hx
  · intro o1 o2 v1 v2 b x1 x2 h1 h2 l1 l2 e1 e2 b1 b2
    exact H.inj o1 o2 v1 v2 b x1 x2 (hsub _ _ h1 l1).1 (hsub _ _ h2 l2).1 l1 l2 e1 e2 b1 b2
  · intro b x hx
    rcases hnew b x hx with h | ⟨_, _, _, h⟩
    · exact H.ghost b x h
    · exact h
  · intro o' vo b x h hl e hb
    obtain ⟨h1, h2⟩ := hsub _ _ h hl
    have h3 := H.sep o' vo b x h1 hl e hb
    cases hf : frzG g loc w o b with
    | none => rfl
    | some y =>
      rcases hnew b y hf with h4 | ⟨p, h4, h5, _⟩
      · rw [h3] at h4; cases h4
      · exact absurd (H.inj o' o vo _ b x p h1 ho hl hlive e h4 hb h5) h2
  · intro o' vo b x h hl e hb
    exact H.low o' vo b x (hsub _ _ h hl).1 hl e hb
  · intro b x hx hlt hwr
    rcases hnew b x hx with h | ⟨p, h4, h5, _⟩
    · exact H.old b x h hlt hwr
    · rcases H.low o _ b p ho hlive h4 h5 with h1 | h1
      · rw [hwr] at h1; cases h1
      · omega
  · intro b x y e hb hy
    unfold frzG
    rw [e]; simp only [hb, if_true]; exact hy

mutual
def ownP (p : Nat → Prop) : HV → Prop
  | .own o _ => p o
  | .st _ fs => ownPs p fs
  | _ => True
def ownPs (p : Nat → Prop) : List HV → Prop
  | [] => True
  | h :: hs => ownP p h ∧ ownPs p hs
end
mutual
theorem ownP_true : ∀ (h : HV), ownP (fun _ => True) h
  | .own _ _ => by simp only [ownP]
  | .st _ fs => by simp only [ownP]; exact ownPs_true fs
  | .dat .. => by simp only [ownP]
  | .ptr .. => by simp only [ownP]
  | .gptr .. => by simp only [ownP]
  | .fn .. => by simp only [ownP]
  | .tup .. => by simp only [ownP]
  | .cst .. => by simp only [ownP]
  | .yld .. => by simp only [ownP]
  | .mp .. => by simp only [ownP]
  | .mit .. => by simp only [ownP]
  | .und => by simp only [ownP]
theorem ownPs_true : ∀ (hs : List HV), ownPs (fun _ => True) hs
  | [] => by simp only [ownPs]
  | h :: hs => by simp only [ownPs]; exact ⟨ownP_true h, ownPs_true hs⟩
end

/-- A ghost that has all that one may reach. -/
structure Takes (hp : Hp) (g : Ghost) (loc : Loc) (w : World) (G : Ghost) (p : Nat → Prop) : Prop where
  gh : g.le G
  ob : ∀ o vo b x y, p o → lk hp o = some vo → vo.live = true → loc o = some x → x.blk = some b → w.heap[b]? = some y → G b = some y

theorem Takes.whole (H : HeapRel w0 hp g loc w) : Takes hp g loc w (whole w) (fun _ => True) := ⟨fun b x hx => H.ghost b x hx, fun _ _ _ _ _ _ _ _ _ _ h => h⟩

/-- A slice that was given away is data. -/
theorem froz_hc (H : HeapRel w0 hp g loc w) {o : Nat} {s : Sh} {xs : List D} (ho : lk hp o = some (.froz s xs)) {us : List Value} (hc : HC g loc (.own o s) us) : Rel g (.slice s) (.L xs) us := by
  simp only [HC] at hc
  simp only [Rel, D.list]
  rcases H.obj o _ ho with ⟨k1, rfl⟩ | ⟨b, cap, T, cs, k1, k2, k3, k4, k5⟩
  · rcases hc with ⟨_, a, rfl⟩ | ⟨b', cap', len', e1, rfl⟩
    · exact ⟨a, 0, rfl, by cases a <;> simp⟩
    · rw [k1] at e1; cases e1
  · rcases hc with ⟨e1, _, rfl⟩ | ⟨b', cap', len', e1, rfl⟩
    · rw [k1] at e1; cases e1
    · rw [k1] at e1
      simp only [Option.some.injEq, Place.at.injEq] at e1
      obtain ⟨rfl, rfl, rfl, _⟩ := e1
      refine ⟨some ⟨b, 0, none⟩, cap, rfl, k4, fun _ => ⟨rfl, cs, T, (0, 0), k2, by simp [k3], fun j hj => ?_⟩⟩
      simp only [Nat.zero_add]
      exact k5 j hj
theorem froz_hrel (H : HeapRel w0 hp g loc w) {o : Nat} {s : Sh} {xs : List D} (ho : lk hp o = some (.froz s xs)) {v : Value} (hc : HRel g loc (.own o s) v) : HRel g loc (.dat (.slice s) (.L xs)) v := by
  obtain ⟨us, h1, h2⟩ := hc
  exact HRel.dat_iff.2 ⟨us, froz_hc H ho h1, h2⟩
mutual
theorem argD_rel {G : Ghost} {p : Nat → Prop} (HT : Takes hp g loc w G p) (H : HeapRel w0 hp g loc w) (hv : HV) (s : Sh) (d : D) (us : List Value) (hin : ownP p hv) (ha : argD hp s hv = some d) (hc : HC g loc hv us) : Rel G s d us := by
  match hv, s, d, us, hin, ha, hc with
  | .dat s' e, s, d, us, hin, h, hc =>
    simp only [argD] at h
    split at h
    · rename_i hb
      simp only [Option.some.injEq] at h; subst h
      have := Sh.beq_eq hb; subst this
      simp only [HC] at hc
      exact hc.mono HT.gh
    · cases h
  | .own o s', s, d, us, hin, h, hc =>
    cases s <;> simp only [argD, reduceCtorEq] at h
    rename_i s
    split at h
    · rename_i hb
      split at h
      · rename_i s2 xs ho
        split at h
        · rename_i hb2
          simp only [Option.some.injEq] at h; subst h
          have := Sh.beq_eq hb; subst this
          have := Sh.beq_eq hb2; subst this
          simp only [HC] at hc
          simp only [Rel, D.list]
          rcases H.obj o _ ho with ⟨k1, rfl⟩ | ⟨b, cap, T, cs, k1, k2, k3, k4, k5⟩
          · rcases hc with ⟨_, a, rfl⟩ | ⟨b', cap', len', e1, rfl⟩
            · exact ⟨a, 0, rfl, by cases a <;> simp⟩
            · rw [k1] at e1; cases e1
          · rcases hc with ⟨e1, _, rfl⟩ | ⟨b', cap', len', e1, rfl⟩
            · rw [k1] at e1; cases e1
            · rw [k1] at e1
              simp only [Option.some.injEq, Place.at.injEq] at e1
              obtain ⟨rfl, rfl, rfl, _⟩ := e1
              refine ⟨some ⟨b, 0, none⟩, cap, rfl, k4, fun _ => ⟨rfl, cs, T, (0, 0), HT.ob o _ b _ _ (by simpa only [ownP] using hin) ho rfl k1 rfl k2, by simp [k3], fun j hj => ?_⟩⟩
              simp only [Nat.zero_add]
              exact (k5 j hj).mono HT.gh
        · cases h
      · rename_i s2 xs ho
        split at h
        · rename_i hb2
          simp only [Option.some.injEq] at h; subst h
          have := Sh.beq_eq hb; subst this
          have := Sh.beq_eq hb2; subst this
          have := froz_hc H ho hc
          exact this.mono HT.gh
        · cases h
      · cases h
    · cases h
  | .cst v, s, d, us, hin, h, hc =>
    simp only [HC] at hc
    obtain ⟨rfl, _⟩ := hc
    cases s <;> simp only [argD, reduceCtorEq] at h
    split at h
    · rename_i hn
      simp only [Option.some.injEq] at h
      subst h
      rw [isNil_eq hn]
      simp only [Rel, D.list]
      exact ⟨none, 0, rfl, by simp⟩
    · cases h
  | .st ss' fs, s, d, us, hin, h, hc =>
    cases s <;> simp only [argD, reduceCtorEq] at h
    rename_i ss
    split at h
    · rename_i hb
      split at h
      · rename_i ds hds
        simp only [Option.some.injEq] at h; subst h
        have := Sh.beqs_eq hb; subst this
        simp only [HC] at hc
        simp only [Rel]
        exact argDs_rel HT H fs ss' ds us 0 _ (by simpa only [ownP] using hin) hds hc fun j _ => by simp [D.nth]
      · cases h
    · cases h
  | .ptr .., s, d, us, _, h, _ => cases s <;> simp [argD] at h
  | .gptr .., s, d, us, _, h, _ => cases s <;> simp [argD] at h
  | .fn .., s, d, us, _, h, _ => cases s <;> simp [argD] at h
  | .yld .., s, d, us, _, h, _ => cases s <;> simp [argD] at h
  | .mp .., s, d, us, _, h, _ => cases s <;> simp [argD] at h
  | .mit .., s, d, us, _, h, _ => cases s <;> simp [argD] at h
  | .tup .., s, d, us, _, h, _ => cases s <;> simp [argD] at h
  | .und, s, d, us, _, h, _ => cases s <;> simp [argD] at h
termination_by SizeOf.sizeOf hv
theorem argDs_rel {G : Ghost} {p : Nat → Prop} (HT : Takes hp g loc w G p) (H : HeapRel w0 hp g loc w) (fs : List HV) (ss : List Sh) (ds : List D) (us : List Value) (i : Nat) (d : D) (hin : ownPs p fs) (ha : argDs hp ss fs = some ds) (hc : HCs g loc ss fs us)
    (hd : ∀ j, j < ds.length → d.nth (i + j) = ds.getD j .Z) : Rels G ss i d us := by
  match fs, ss, ds, us, i, d, hin, ha, hc, hd with
  | [], [], _, _, _, _, _, _, hc, _ => simp only [HCs] at hc; simp only [Rels, hc]
  | f :: fs, s :: ss, ds, us, i, d, hin, h, hc, hd =>
    simp only [ownPs] at hin
    simp only [argDs] at h
    split at h
    · rename_i e he
      split at h
      · rename_i es hes
        simp only [Option.some.injEq] at h; subst h
        simp only [HCs] at hc
        simp only [Rels]
        have e0 : d.nth i = e := by simpa using hd 0 (by simp)
        refine ⟨hc.1, by rw [e0]; exact argD_rel HT H f s e _ hin.1 he hc.2.1, argDs_rel HT H fs ss es _ (i + 1) d hin.2 hes hc.2.2 fun j hj => ?_⟩
        have := hd (j + 1) (by simp; omega)
        simp only [List.getD_cons_succ] at this
        rw [← this]; congr 1; omega
      · cases h
    · cases h
  | [], _ :: _, _, _, _, _, _, h, _, _ => simp [argDs] at h
  | _ :: _, [], _, _, _, _, _, h, _, _ => simp [argDs] at h
termination_by SizeOf.sizeOf fs
end

theorem argD_fits {hp : Hp} : ∀ {h : HV} {s : Sh} {d : D}, argD hp s h = some d → fits s h = true ∨ (∃ fs, h = .st (match s with | .struct ss => ss | _ => []) fs ∧ ∃ ss, s = .struct ss)
  | .dat s' e, s, d, h => by
    simp only [argD] at h
    split at h
    · rename_i hb; exact .inl (by simp only [fits, hb])
    · cases h
  | .own o s', s, d, h => by cases s <;> simp [argD] at h; exact .inl (by simp [fits, Sh.size, Sh.agg])
  | .cst v, s, d, h => by cases s <;> simp [argD] at h; exact .inl (by simp [fits, Sh.size, Sh.agg])
  | .st ss' fs, s, d, h => by
    cases s <;> simp only [argD, reduceCtorEq] at h
    rename_i ss
    split at h
    · rename_i hb; have := Sh.beqs_eq hb; subst this; exact .inr ⟨fs, rfl, _, rfl⟩
    · cases h
  | .ptr .., s, d, h => by cases s <;> simp [argD] at h
  | .gptr .., s, d, h => by cases s <;> simp [argD] at h
  | .fn .., s, d, h => by cases s <;> simp [argD] at h
  | .yld .., s, d, h => by cases s <;> simp [argD] at h
  | .mp .., s, d, h => by cases s <;> simp [argD] at h
  | .mit .., s, d, h => by cases s <;> simp [argD] at h
  | .tup .., s, d, h => by cases s <;> simp [argD] at h
  | .und, s, d, h => by cases s <;> simp [argD] at h

theorem argD_hrel {G : Ghost} {p : Nat → Prop} (HT : Takes hp g loc w G p) (H : HeapRel w0 hp g loc w) {h : HV} {s : Sh} {d : D} {v : Value} (hin : ownP p h) (ha : argD hp s h = some d) (hr : HRel g loc h v) : HRel G (fun _ => none) (.dat s d) v := by
  have key : ∀ us, HC g loc h us → h.agg = s.agg → v = mkV h.agg us → HRel G (fun _ => none) (.dat s d) v := by
    intro us h1 h2 h3
    exact HRel.dat_iff.2 ⟨us, argD_rel HT H h s d us hin ha h1, by rw [h3, h2]⟩
  rcases argD_fits ha with hf | ⟨fs, rfl, ss, rfl⟩
  · obtain ⟨us, h1, h2⟩ := HRel.of_fits hf hr
    exact key us h1 (fits_agg hf) h2
  · obtain ⟨us, h1, h2⟩ := hr
    exact key us h1 rfl h2

theorem argDs_args {G : Ghost} {p : Nat → Prop} (HT : Takes hp g loc w G p) (H : HeapRel w0 hp g loc w) : ∀ {hs : List HV} {ss : List Sh} {ds : List D} {vs : List Value}, ownPs p hs → argDs hp ss hs = some ds → (∀ (i : Nat) h v, hs[i]? = some h → vs[i]? = some v → HRel g loc h v) → hs.length = vs.length →
    ArgsRel G ss ds vs
  | [], [], ds, vs, _, h, _, hl => by
    simp only [argDs, Option.some.injEq] at h; subst h
    cases vs with
    | nil => simp only [ArgsRel]
    | cons => simp at hl
  | f :: fs, s :: ss, ds, vs, hin, h, hr, hl => by
    simp only [ownPs] at hin
    simp only [argDs] at h
    cases vs with
    | nil => simp at hl
    | cons v vs =>
      split at h
      · rename_i e he
        split at h
        · rename_i es hes
          simp only [Option.some.injEq] at h; subst h
          simp only [ArgsRel]
          refine ⟨argD_hrel HT H hin.1 he (hr 0 f v rfl rfl), argDs_args HT H hin.2 hes (fun i a b h1 h2 => hr (i + 1) a b (by simpa using h1) (by simpa using h2)) (by simpa using hl)⟩
        · cases h
      · cases h
  | [], _ :: _, _, _, _, h, _, _ => by simp [argDs] at h
  | _ :: _, [], _, _, _, h, _, _ => by simp [argDs] at h

theorem argDs_dat : ∀ {hs : List HV} {ss : List Sh} {ds : List D} {vs : List Value}, argDs hp ss hs = some ds → allIsDat hs = true → (∀ (i : Nat) h v, hs[i]? = some h → vs[i]? = some v → HRel g loc h v) → hs.length = vs.length →
    ArgsRel g ss ds vs
  | [], [], ds, vs, h, _, _, hl => by
    simp only [argDs, Option.some.injEq] at h; subst h
    cases vs with
    | nil => simp only [ArgsRel]
    | cons => simp at hl
  | f :: fs, s :: ss, ds, vs, h, hd, hr, hl => by
    simp only [argDs] at h
    simp only [allIsDat, Bool.and_eq_true] at hd
    cases vs with
    | nil => simp at hl
    | cons v vs =>
      split at h
      · rename_i e he
        split at h
        · rename_i es hes
          simp only [Option.some.injEq] at h; subst h
          simp only [ArgsRel]
          refine ⟨?_, argDs_dat hes hd.2 (fun i a b h1 h2 => hr (i + 1) a b (by simpa using h1) (by simpa using h2)) (by simpa using hl)⟩
          cases f <;> simp [HV.isDat] at hd
          rename_i s' d'
          simp only [argD] at he
          split at he
          · rename_i hb
            simp only [Option.some.injEq] at he; subst he
            have := Sh.beq_eq hb; subst this
            obtain ⟨us, h1, h2⟩ := HRel.dat_iff.1 (hr 0 _ v rfl rfl)
            exact HRel.dat_iff.2 ⟨us, h1, h2⟩
          · cases he
        · cases h
      · cases h
  | [], _ :: _, _, _, h, _, _, _ => by simp [argDs] at h
  | _ :: _, [], _, _, h, _, _, _ => by simp [argDs] at h

theorem plains_rel {g' : Ghost} {loc' : Loc} : ∀ {hs : List HV} {vs : List Value}, plains hs = true → HVs g loc hs vs → HVs g' loc' hs vs
  | [], [], _, _ => by simp only [HVs]
  | h :: hs, v :: vs, hp, hv => by
    simp only [plains, Bool.and_eq_true] at hp
    simp only [HVs] at hv ⊢
    obtain ⟨⟨us, h1, h2⟩, h3⟩ := hv
    refine ⟨⟨us, ?_, h2⟩, plains_rel hp.2 h3⟩
    cases h <;> simp [HV.plain] at hp
    simp only [HC] at h1 ⊢
    exact h1.flat hp.1
  | [], _ :: _, _, h => by simp [HVs] at h
  | _ :: _, [], _, h => by simp [HVs] at h

theorem flatRes_rel {g' : Ghost} {loc' : Loc} {h : HV} {v : Value} (hf : h.flatRes = true) (hr : HRel g loc h v) : HRel g' loc' h v := by
  cases h <;> simp [HV.flatRes] at hf
  case dat s d =>
    obtain ⟨us, h1, h2⟩ := HRel.dat_iff.1 hr
    exact HRel.dat_iff.2 ⟨us, h1.flat hf, h2⟩
  case tup l =>
    obtain ⟨vs, h1, h2⟩ := hr
    exact ⟨vs, plains_rel hf h1, h2⟩

theorem frzU_sound : ∀ {l : List Nat} {u u' : List (Nat × VO)} {g : Ghost}, frzU hp l u = some u' → HeapRel w0 (u ++ hp) g loc w →
    ∃ G, HeapRel w0 (u' ++ hp) G loc w ∧ g.le G ∧ ∀ o ∈ l, ∀ b x y, loc o = some x → x.blk = some b → w.heap[b]? = some y → G b = some y
  | [], u, u', g, h, H => by
    have h : some u = some u' := h
    simp only [Option.some.injEq] at h; subst h
    exact ⟨g, H, Ghost.le_refl g, fun o ho => by simp at ho⟩
  | o :: l, u, u', g, h, H => by
    have h : (match lk (u ++ hp) o with
      | some (.grow s xs) => frzU hp l ((o, .froz s xs) :: u)
      | some (.froz _ _) => frzU hp l u
      | _ => none) = some u' := h
    split at h
    · rename_i s xs ho
      obtain ⟨H1, h1, h2⟩ := H.freeze ho
      obtain ⟨G, h3, h4, h5⟩ := frzU_sound h (by simpa using H1)
      refine ⟨G, h3, Ghost.le_trans h1 h4, fun o' ho' b x y e hb hy => ?_⟩
      rcases List.mem_cons.1 ho' with rfl | ho'
      · exact h4 _ _ (h2 b x y e hb hy)
      · exact h5 o' ho' b x y e hb hy
    · rename_i s xs ho
      obtain ⟨G, h3, h4, h5⟩ := frzU_sound h H
      refine ⟨G, h3, h4, fun o' ho' b x y e hb hy => ?_⟩
      rcases List.mem_cons.1 ho' with rfl | ho'
      · refine h4 _ _ ?_
        rcases H.obj o' _ ho with ⟨k1, _⟩ | ⟨b', cap, T, cs, k1, k2, _⟩
        · rw [k1] at e; simp only [Option.some.injEq] at e; subst e; simp [Place.blk] at hb
        · rw [k1] at e; simp only [Option.some.injEq] at e; subst e
          simp only [Place.blk, Option.some.injEq] at hb
          subst hb
          have := H.ghost _ _ k2
          rw [this] at hy
          rw [k2]; exact hy
      · exact h5 o' ho' b x y e hb hy
    · cases h
theorem ownPs_of1 {q : Nat → Prop} : ∀ {fs : List HV}, (@List.rec HV (fun _ => Bool) true (fun h _ ih => match h with
    | .st _ _ => false
    | _ => ih) fs) = true → (∀ o ∈ (@List.rec HV (fun _ => List Nat) [] (fun h _ ih => match h with
    | .own o _ => o :: ih
    | _ => ih) fs), q o) → ownPs q fs
  | [], _, _ => by simp only [ownPs]
  | f :: fs, hs, hq => by
    simp only [ownPs]
    cases f
    case own o s => exact ⟨by simp only [ownP]; exact hq o (by simp), ownPs_of1 hs fun o' ho' => hq o' (by simp [ho'])⟩
    case st => cases hs
    all_goals exact ⟨by simp only [ownP], ownPs_of1 hs hq⟩
theorem ownP_of {q : Nat → Prop} {h : HV} (hs : shallow h = true) (hq : ∀ o ∈ ownIds h, q o) : ownP q h := by
  cases h
  case own o s => simp only [ownP]; exact hq o (by simp [ownIds])
  case st ss fs => simp only [ownP]; exact ownPs_of1 hs hq
  all_goals simp only [ownP]
theorem ownPs_of {q : Nat → Prop} : ∀ {hs : List HV}, shallowL hs = true → (∀ o ∈ ownIdsL hs, q o) → ownPs q hs
  | [], _, _ => by simp only [ownPs]
  | h :: hs, hsh, hq => by
    have h1 : (shallow h && shallowL hs) = true := hsh
    have h2 : ∀ o ∈ ownIds h ++ ownIdsL hs, q o := hq
    simp only [Bool.and_eq_true] at h1
    simp only [ownPs]
    exact ⟨ownP_of h1.1 fun o ho => h2 o (by simp [ho]), ownPs_of h1.2 fun o ho => h2 o (by simp [ho])⟩

theorem mpArgs_rel : ∀ {ps : List MP} {hs : List HV} {ds : List D} {vs : List Value}, mpArgs ps hs = some ds → (∀ (i : Nat) h v, hs[i]? = some h → vs[i]? = some v → HRel g loc h v) → hs.length = vs.length → MArgs g ps ds vs
  | [], [], ds, vs, h, _, hl => by
    simp only [mpArgs, Option.some.injEq] at h; subst h
    cases vs with
    | nil => simp only [MArgs]
    | cons => simp at hl
  | .dat s :: ps, f :: fs, ds, vs, h, hr, hl => by
    cases vs with
    | nil => simp at hl
    | cons v vs =>
      cases f <;> simp only [mpArgs, reduceCtorEq] at h
      split at h
      · rename_i hb
        have := Sh.beq_eq hb; subst this
        split at h
        · rename_i es hes
          simp only [Option.some.injEq] at h; subst h
          simp only [MArgs]
          refine ⟨?_, mpArgs_rel hes (fun i a b h1 h2 => hr (i + 1) a b (by simpa using h1) (by simpa using h2)) (by simpa using hl)⟩
          obtain ⟨us, h1, h2⟩ := HRel.dat_iff.1 (hr 0 _ v rfl rfl)
          exact HRel.dat_iff.2 ⟨us, h1, h2⟩
        · cases h
      · cases h
  | .fn n :: ps, f :: fs, ds, vs, h, hr, hl => by
    cases vs with
    | nil => simp at hl
    | cons v vs =>
      have key : ∃ m, f = .fn m [] ∧ Nat.beq n m = true ∧ mpArgs ps fs = some ds := by
        cases f with
        | fn m caps =>
          cases caps with
          | nil =>
            simp only [mpArgs] at h
            split at h
            · rename_i hb; exact ⟨m, rfl, hb, h⟩
            · cases h
          | cons => simp [mpArgs] at h
        | _ => simp [mpArgs] at h
      obtain ⟨m, rfl, hb, hk⟩ := key
      have := Nat.eq_of_beq_eq_true hb; subst this
      simp only [MArgs]
      refine ⟨?_, mpArgs_rel hk (fun i a b h1 h2 => hr (i + 1) a b (by simpa using h1) (by simpa using h2)) (by simpa using hl)⟩
      obtain ⟨us, h1, h2⟩ := hr 0 _ v rfl rfl
      simp only [HC] at h1
      obtain ⟨cs, h3, rfl⟩ := h1
      cases cs with
      | nil => exact h2
      | cons => simp [HVs] at h3
  | [], _ :: _, _, _, h, _, _ => by simp [mpArgs] at h
  | .dat _ :: _, [], _, _, h, _, _ => by simp [mpArgs] at h
  | .fn _ :: _, [], _, _, h, _, _ => by simp [mpArgs] at h
theorem mutCall_sound (H : HeapRel w0 hp g loc w) {f : Nat} {M : MSum} (hok : MutOK P f M) {hs : List HV} {vs : List Value} {ef : Ef} (h : mutCall M nx hp hs = some ef) (hpre : holds ef.pre)
    (hr : ∀ (i : Nat) h v, hs[i]? = some h → vs[i]? = some v → HRel g loc h v) (hl : hs.length = vs.length) :
    OpWp P (fun v w' => ∃ g' loc', g.le g' ∧ loc.le loc' ∧ (∀ o, o < nx ∨ ef.nx ≤ o → loc' o = loc o) ∧ HeapRel w0 (ef.upd ++ hp) g' loc' w' ∧ HRel g' loc' ef.hv v) ((callFunc f vs.toArray).run P w) := by
  unfold mutCall at h
  split at h
  · rename_i o s' rest
    split at h
    · rename_i s2 xs ds hb ho hds
      split at h
      · rename_i hb2
        simp only [Option.some.injEq] at h; subst h
        simp only [Bool.and_eq_true] at hb2
        have := Sh.beq_eq hb; subst this
        have := Sh.beq_eq hb2.1.1; subst this
        cases vs with
        | nil => simp at hl
        | cons v0 vs =>
          have h0 := hr 0 _ v0 rfl rfl
          have hO := H.obj o _ ho
          obtain ⟨x, hx⟩ : ∃ x, loc o = some x := by
            rcases hO with ⟨k1, _⟩ | ⟨b, cap, T, cs, k1, _⟩
            · exact ⟨_, k1⟩
            · exact ⟨_, k1⟩
          have l0 : loc1 x 0 = some x := by simp [loc1]
          have hO' : ORel g (loc1 x) w 0 (.grow M.s xs) := by
            rcases hO with ⟨k1, k2⟩ | ⟨b, cap, T, cs, k1, k2⟩
            · rw [hx] at k1
              exact .inl ⟨by rw [l0]; exact k1, k2⟩
            · rw [hx] at k1
              exact .inr ⟨b, cap, T, cs, by rw [l0]; exact k1, k2⟩
          have h0' : HRel g (loc1 x) (.own 0 M.s) v0 := by
            obtain ⟨us, h1, h2⟩ := h0
            refine ⟨us, ?_, h2⟩
            simp only [HC] at h1 ⊢
            rcases h1 with ⟨k1, k2⟩ | ⟨b, cap, len, k1, k2⟩
            · rw [hx] at k1
              exact .inl ⟨by rw [l0]; exact k1, k2⟩
            · rw [hx] at k1
              exact .inr ⟨b, cap, len, by rw [l0]; exact k1, k2⟩
          have := hok g w x xs ds v0 vs H.ghost (fun b hb => H.sep o _ b x ho rfl hx hb) hO' h0' (mpArgs_rel hds (fun i a b h1 h2 => hr (i + 1) a b (by simpa using h1) (by simpa using h2)) (by simpa using hl)) hpre
          refine this.mono fun v w' ⟨k1, k2, k3, ⟨G1, k4⟩, G2, k5⟩ => ⟨g, loc, Ghost.le_refl g, Loc.le_refl loc, fun _ _ => rfl, ?_, flatRes_rel hb2.2 k5⟩
          have hend : ORel g loc w' o (.grow M.s (M.out xs ds)) := by
            rcases k4 with ⟨m1, m2⟩ | ⟨b, cap, T, cs, m1, m2, m3, m4, m5⟩
            · rw [l0] at m1
              exact .inl ⟨by rw [hx]; exact m1, m2⟩
            · rw [l0] at m1
              exact .inr ⟨b, cap, T, cs, by rw [hx]; exact m1, m2, m3, m4, fun j hj => (m5 j hj).flat hb2.1.2⟩
          exact H.mut ho rfl hx k1 k2 k3 hend
      · cases h
    · cases h
  · cases h
/-- A call of a function whose summary is right. -/
theorem doCall_sound (hC : CtxOK P c) (H : HeapRel w0 hp g loc w) {f : Nat} {hs : List HV} {vs : List Value} {ef : Ef} (h : doCall c nx hp f hs = some ef) (hpre : holds ef.pre)
    (hr : ∀ (i : Nat) h v, hs[i]? = some h → vs[i]? = some v → HRel g loc h v) (hl : hs.length = vs.length) :
    OpWp P (fun v w' => ∃ g' loc', g.le g' ∧ loc.le loc' ∧ (∀ o, o < nx ∨ ef.nx ≤ o → loc' o = loc o) ∧ HeapRel w0 (ef.upd ++ hp) g' loc' w' ∧ HRel g' loc' ef.hv v) ((callFunc f vs.toArray).run P w) := by
  unfold doCall at h
  split at h
  · split at h
    · rename_i M hM
      obtain ⟨f', hf', hok⟩ := hC.maps _ _ hM
      have : f = f' := Nat.add_right_cancel hf'
      subst this
      exact mutCall_sound H hok h hpre hr hl
    · cases h
  · rename_i S hS
    rw [argDL_eq] at h
    split at h
    · cases h
    · rename_i ds hds
      split at h
      · rename_i hfl
        simp only [Option.some.injEq] at h; subst h
        simp only at hpre
        have hok := hC.sums f S hS
        simp only [Bool.or_eq_true] at hfl
        rcases hfl with hfl | hfl
        · have := hok (whole w) w ds vs (fun b x h => h) (argDs_args (Takes.whole H) H (ownPs_true hs) hds hr hl) hpre
          refine this.mono fun v w' ⟨g', h1, h2, h3, h4, h5⟩ => ⟨g, loc, Ghost.le_refl g, Loc.le_refl loc, fun _ _ => rfl, ?_, flatRes_rel hfl h5⟩
          simp only [List.nil_append]
          exact H.grown h4 (Ghost.le_refl g) (fun b x hx => .inl hx) (fun b x hx => h4.get (H.ghost b x hx))
        · have := hok g w ds vs H.ghost (argDs_dat hds hfl hr hl) hpre
          refine this.mono fun v w' ⟨g', h1, h2, h3, h4, h5⟩ => ⟨g', loc, h1, Loc.le_refl loc, fun _ _ => rfl, ?_, ?_⟩
          · simp only [List.nil_append]
            exact H.grown h4 h1 h2 h3
          · exact h5.mono (Ghost.le_refl _) (fun o x hx => by cases hx)
      · split at h
        · rename_i hsh
          split at h
          · rename_i u hu
            simp only [Option.some.injEq] at h; subst h
            simp only at hpre
            have hok := hC.sums f S hS
            obtain ⟨G, HG, hgG, hob⟩ := frzU_sound hu (by simpa using H)
            have HT : Takes hp g loc w G (fun o => o ∈ ownIdsL hs) := ⟨hgG, fun o vo b x y hin _ _ e hb hy => hob o hin b x y e hb hy⟩
            have := hok G w ds vs HG.ghost (argDs_args HT H (ownPs_of hsh fun o ho => ho) hds hr hl) hpre
            refine this.mono fun v w' ⟨g', h1, h2, h3, h4, h5⟩ => ⟨g', loc, Ghost.le_trans hgG h1, Loc.le_refl loc, fun _ _ => rfl, HG.grown h4 h1 h2 h3, ?_⟩
            exact h5.mono (Ghost.le_refl _) (fun o x hx => by cases hx)
          · cases h
        · cases h
end
end Go.Vm
