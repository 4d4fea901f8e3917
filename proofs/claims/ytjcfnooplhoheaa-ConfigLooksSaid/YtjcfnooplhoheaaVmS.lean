/- A region that does not draw its order. -/
import Derived.Test.YtjcfnooplhoheaaVmR
import Derived.WalkSpells
noncomputable section
namespace Go.Vm
open Go

set_option linter.unusedSimpArgs false
/-- The objects, and nothing from nx on. -/
def HeapN (w0 : Base) (hp : Hp) (nx : Nat) (g : Ghost) (loc : Loc) (w : World) : Prop := HeapRel w0 hp g loc w ∧ ∀ o, nx ≤ o → loc o = none

/-- The run of a call. -/
def CalRun (P : Program) (loc : Loc) (vs : List Value) (w : World) (r : Result Next) : Cal → Prop
  | .fn n => r = (callFunc n vs.toArray).run P w
  | .yl o => ∃ l lr, loc o = some (.loop l lr) ∧ r = (Instr.yield l vs.toArray).run P w

/-- How a call without a summary is taken is right. -/
def InlOK (P : Program) (w0 : Base) (g0 : Ghost) (loc0 : Loc) (inl : Cal → List HV → Hp → Nat → (HV → Hp → Nat → Prop) → Prop) : Prop :=
  ∀ (k : Cal) (hs : List HV) (hp : Hp) (nx : Nat) (K : HV → Hp → Nat → Prop) (g : Ghost) (loc : Loc) (w : World) (vs : List Value) (r : Result Next), inl k hs hp nx K → g0.le g → loc0.le loc → HeapN w0 hp nx g loc w →
    (∀ (i : Nat) h v, hs[i]? = some h → vs[i]? = some v → HRel g loc h v) → hs.length = vs.length → CalRun P loc vs w r k →
    OpWp P (fun v w' => ∃ h hp' nx' g' loc', K h hp' nx' ∧ g.le g' ∧ loc.le loc' ∧ HeapN w0 hp' nx' g' loc' w' ∧ HRel g' loc' h v) r

theorem semAt_eq {ro : Option Nat} {ρ : Operand → Value} {o : Oper} (h : ∀ c, o.op ≠ .defer c) : Oper.semAt ro ρ o = execOp ρ o := by
  unfold Oper.semAt
  split
  · rename_i hc; exact absurd hc (h _)
  · rfl

theorem Oper.wp_of_opwp {F : Fence} (hF : FOK F) {n : Nat} {P : Program} {o : Oper} (ho : ∀ c, o.op ≠ .defer c) {a : Act} {w : World} {next : Act → World → Prop} {Q : Exit → Act → World → Prop} {K : Value → World → Prop}
    (h : OpWp P K ((execOp a.eval o).run P w)) (hk : ∀ v w', K v w' → next (a.put o.dst v) w') : o.wpIn F n P a w next Q := by
  refine ⟨fun f _ => hF.fn f, ?_⟩
  rw [semAt_eq ho]
  generalize (execOp a.eval o).run P w = r at h
  cases r with
  | ok n w' =>
    cases n <;> simp only [OpWp] at h <;> simp only [Oper.uponIn]
    · exact hk _ _ h
    · exact hk _ _ h
    · refine ⟨hF.depth, (hF.calls h).mono fun e w'' ⟨v, he, hv⟩ => ?_⟩
      subst he
      exact hk _ _ hv
    · refine ⟨hF.depth, (hF.rounds (h _)).mono fun e w'' ⟨v, he, hv⟩ => ?_⟩
      subst he
      exact hk _ _ hv
  | halt x w' => simp only [OpWp] at h

theorem vop0_nodefer {c : Ctx} {nx : Nat} {ρ : Operand → HV} {hp : Hp} {ty : Nat} {op : Op} {ef : Ef} (h : vop0 c nx ρ hp ty op = some ef) : ∀ d, op ≠ .defer d := by
  rintro d rfl
  simp [vop0] at h

theorem vop0_nx {c : Ctx} {nx : Nat} {ρ : Operand → HV} {hp : Hp} {ty : Nat} {op : Op} {ef : Ef} (h : vop0 c nx ρ hp ty op = some ef) : nx ≤ ef.nx := by
  cases op <;> simp only [vop0, reduceCtorEq] at h
  case call cl =>
    obtain ⟨callee, args, tys⟩ := cl
    cases callee with
    | builtin b => cases b <;> simp only [vop0, reduceCtorEq] at h <;> (repeat' split at h) <;> first | (simp only [Option.some.injEq] at h; subst h; first | exact Nat.le_refl _ | exact Nat.le_add_right _ _) | cases h
    | invoke r m => simp [vop0] at h
    | value f =>
      simp only [vop0, fHVsO_eq] at h
      split at h
      · unfold doCall mutCall at h
        (repeat' split at h) <;> first | (simp only [Option.some.injEq] at h; subst h; first | exact Nat.le_refl _ | exact Nat.le_add_right _ _) | cases h
      · cases h
  case makeFunc fn first caps => cases fn <;> simp only [vop0, reduceCtorEq] at h <;> (repeat' split at h) <;> first | (simp only [Option.some.injEq] at h; subst h; first | exact Nat.le_refl _ | exact Nat.le_add_right _ _) | cases h
  all_goals ((repeat' split at h) <;> first | (simp only [Option.some.injEq] at h; subst h; first | exact Nat.le_refl _ | exact Nat.le_add_right _ _) | cases h)

theorem vop_nodefer {c : Ctx} {nx : Nat} {ρ : Operand → HV} {hp : Hp} {ty : Nat} {op : Op} {ef : Ef} (h : vop c nx ρ hp ty op = some ef) : ∀ d, op ≠ .defer d := by
  obtain ⟨ef0, h0, rfl⟩ := vop_some h
  exact vop0_nodefer h0
theorem vop_nx {c : Ctx} {nx : Nat} {ρ : Operand → HV} {hp : Hp} {ty : Nat} {op : Op} {ef : Ef} (h : vop c nx ρ hp ty op = some ef) : nx ≤ ef.nx := by
  obtain ⟨ef0, h0, rfl⟩ := vop_some h
  have := vop0_nx h0
  exact this

section
variable {B : MB} {Fe : Fence} {fn : Nat} {P : Program} {c : Ctx} {w0 : Base} {N : Nat} {e : Env} {all : List Oper} {inl : Cal → List HV → Hp → Nat → (HV → Hp → Nat → Prop) → Prop} {g0 : Ghost} {loc0 : Loc}

theorem blt_lt {d N : Nat} (h : Nat.blt d N = true) : d < N := by
  have h9 : d + 1 ≤ N := by simpa [Nat.blt] using h
  exact h9

theorem put_none (a : Act) (v : Value) : a.put none v = a := rfl

/-- What is asked behind one operation. -/
def Next (B : MB) (w0 : Base) (N : Nat) (e : Env) (g : Ghost) (loc : Loc) (R : REnv → Hp → Nat → Prop) (a : Act) (w : World) : Prop :=
  ∃ re hp nx g' loc', R re hp nx ∧ g.le g' ∧ loc.le loc' ∧ FRel B g' loc' N e re a ∧ HeapN w0 hp nx g' loc' w

theorem pick_sound {g : Ghost} {loc : Loc} {x : Bool} {ox oy : Operand} {hx hy h : HV} {vx vy : Value} (hp : pickHV x ox oy hx hy = some h) (hcx : ∀ v, ox = .const v → vx = v) (hcy : ∀ v, oy = .const v → vy = v)
    (h1 : x = true → HRel g loc hx vx) (h2 : x = false → HRel g loc hy vy) : HRel g loc h (if x then vx else vy) := by
  unfold pickHV at hp
  split at hp
  · split at hp
    · simp only [Option.some.injEq] at hp; subst hp
      cases x with
      | true => rw [hcx _ rfl]; simpa using HRel.bool_mk (b := true)
      | false => have := (h2 rfl).bool; rw [this]; simpa using HRel.bool_mk
    · cases hp
  · split at hp
    · simp only [Option.some.injEq] at hp; subst hp
      cases x with
      | true => have := (h1 rfl).bool; rw [this]; simpa using HRel.bool_mk
      | false => rw [hcy _ rfl]; simpa using HRel.bool_mk (b := false)
    · cases hp
  · split at hp
    · simp only [Option.some.injEq] at hp; subst hp
      cases x with
      | true => have := (h1 rfl).bool; rw [this]; simpa using HRel.bool_mk
      | false => have := (h2 rfl).bool; rw [this]; simpa using HRel.bool_mk
    · split at hp
      · rename_i hk
        simp only [decide_eq_true_eq] at hk; subst hk
        simp only [Option.some.injEq] at hp; subst hp
        cases x with
        | true => obtain ⟨e1, e2, e3⟩ := (h1 rfl).int; rw [e1]; simpa using HRel.int_mk e2 e3
        | false => obtain ⟨e1, e2, e3⟩ := (h2 rfl).int; rw [e1]; simpa using HRel.int_mk e2 e3
      · cases hp
    · cases hp

theorem run_mapNext {P : Program} {n : Nat} (hn : 1 ≤ n) (w : World) : ∃ i w1, (choose (.mapNext n)).run P w = .ok i w1 ∧ i < n ∧ (w1 = w ∨ w1 = w.drew) := by
  by_cases h : n ≤ 1
  · refine ⟨0, w, ?_, by omega, .inl rfl⟩
    simp [run_choose, Question.forced, h]
  · refine ⟨w.tape w.drawn (.mapNext n) % n, w.drew, ?_, Nat.mod_lt _ (by omega), .inr rfl⟩
    simp [run_choose, Question.forced, h, Question.cut]

theorem HeapN.maybe {w0 : Base} {hp : Hp} {nx : Nat} {g : Ghost} {loc : Loc} {w w1 : World} (H : HeapN w0 hp nx g loc w) (h : w1 = w ∨ w1 = w.drew) : HeapN w0 hp nx g loc w1 ∧ w1.heap = w.heap := by
  rcases h with rfl | rfl
  · exact ⟨H, rfl⟩
  · exact ⟨⟨H.1.drew, H.2⟩, rfl⟩

theorem nil_run {P : Program} {c : Ctx} (hC : CtxOK P c) {g : Ghost} {loc : Loc} {w : World} {h : HV} {v : Value} (hr : HRel g loc h v) {op : BinOp} {t : Nat} {x y : Operand} {K : HV → Prop} (hk : nilK c op t h y K) {a : Act} :
    ∃ v', (do eqGuard op t x y v (a.eval y); binOp op t v (a.eval y) : Sem Value).run P w = .ok v' w ∧ ∃ h', K h' ∧ HRel g loc h' v' := by
  unfold nilK at hk
  split at hk
  all_goals first | exact hk.elim | skip
  all_goals rename_i n' c' s d s' ht
  all_goals
    obtain ⟨us, u1, rfl⟩ := HRel.dat_iff.1 hr
    have hl := (hC.tab _ _ ht).1
    simp only [Lay] at hl
    obtain ⟨_, e, hu, _⟩ := hl
    simp only [Rel] at u1
    obtain ⟨p, cap, rfl, u1⟩ := u1
    simp only [Sh.agg, mkV, Act.eval]
    have hnil : p = none → d.list = [] := fun hp => by subst hp; exact u1.1
  · refine ⟨.bool p.isNone, ?_, .dat .bool (.B p.isNone), hk _ (fun hb => hnil (by simpa using hb)), HRel.bool_mk⟩
    rw [Sem.run_bind, run_eqGuard_other _ _ _ _ _ _ (by simp) (by simp), Result.andThen_ok]
    exact Lib.run_eql_slice_nil w t e p _ _ _ _ hu
  · refine ⟨.bool (!p.isNone), ?_, .dat .bool (.B (!p.isNone)), hk _ (fun hb => hnil (by simpa using hb)), HRel.bool_mk⟩
    rw [Sem.run_bind, run_eqGuard_other _ _ _ _ _ _ (by simp) (by simp), Result.andThen_ok]
    exact run_neq_slice_nil_any w t e p _ _ _ _ hu
theorem next_run {P : Program} {w0 : Base} {hp : Hp} {nx : Nat} {g : Ghost} {loc : Loc} {w : World} (H : HeapN w0 hp nx g loc w) {h : HV} {v : Value} (hr : HRel g loc h v) {K : HV → Hp → Prop} (hk : nextK hp h K) (ty : TypeId) :
    ∃ v' w', (Instr.next v false ty).run P w = .ok v' w' ∧ ∃ h' hp', K h' hp' ∧ HeapN w0 hp' nx g loc w' ∧ HRel g loc h' v' := by
  unfold nextK at hk
  split at hk
  · rename_i oi
    split at hk
    · rename_i om since last seen ho
      split at hk
      · rename_i ks vs es hom
        obtain ⟨hk1, hk2⟩ := hk
        obtain ⟨b, bm, k1, k2, k3, k4⟩ := H.1.obj oi _ ho
        obtain ⟨b', e1, e2⟩ := hr.mit
        rw [k1] at e1
        simp only [Option.some.injEq, Place.obj.injEq] at e1
        subst e1
        obtain ⟨bm', arr, m1, m2, m3⟩ := H.1.obj om _ hom
        rw [k2] at m1
        simp only [Option.some.injEq, Place.obj.injEq] at m1
        subst m1
        subst e2
        have hl := m3.length
        simp only [Array.length_toList] at hl
        have hg : (getObj b).run P w = .ok (.mapIter (some bm) since seen.toArray last) w := by simp [getObj, Sem.run, k3]
        have hun : (!seen.toArray.isEmpty && !arr.isEmpty && arr.all (fun e => decide (e.born ≥ last))) = false := by
          cases hs : seen with
          | nil => simp
          | cons s0 ss =>
            have h1 := k4 (by rw [hs]; simp)
            cases hes : es with
            | nil =>
              have : arr = #[] := by rw [← Array.toList_inj]; exact List.length_eq_zero_iff.1 (by simp [hl, hes])
              simp [this]
            | cons p es' =>
              rw [hes] at m3
              obtain ⟨e, f1, f2, _⟩ := m3.get 0 p rfl
              have hlt : 0 < arr.size := by rw [hl, hes]; simp
              have : (arr.all fun e => decide (e.born ≥ last)) = false := by
                rw [Array.all_eq_false]
                refine ⟨0, hlt, ?_⟩
                have : arr[0] = e := by
                  have := f1
                  rw [List.getElem?_eq_getElem (by simpa using hlt)] at this
                  simpa using this
                rw [this]
                simp; omega
              rw [this]; simp
        let left := arr.filter fun e => !seen.toArray.contains e.born
        let old := left.filter fun e => decide (e.born < since)
        let new := left.filter fun e => decide (e.born ≥ since)
        let cand : Array (Option MapEntry) := (if old.isEmpty then #[none] else #[]) ++ (old ++ new).map some
        have hpos : 1 ≤ cand.size := by
          by_cases ho : old.isEmpty = true
          · simp [cand, ho]
          · simp only [cand, if_neg ho]
            have : 0 < old.size := by
              simp only [Array.isEmpty_iff_size_eq_zero] at ho
              omega
            simp; omega
        obtain ⟨i, w1, c1, c2, c3⟩ := run_mapNext (P := P) hpos w
        obtain ⟨H1, hw1⟩ := H.maybe c3
        have hrun : ∀ r, cand[i]? = some r → (Instr.next (.pointer (some ⟨b, 0, none⟩)) false ty).run P w = (match r with
            | some e => (do setObj b (.mapIter (some bm) since (seen.toArray.push e.born) es.length); pure (.tuple #[.bool true, e.key, e.val]) : Sem Value)
            | none => pure (.tuple #[.bool false])).run P w1 := by
          intro r hr
          simp only [Instr.next, Sem.run_bind, hg, Result.andThen_ok, MapKept.run_getObj_map m2]
          rw [if_neg (by simpa using hun)]
          rw [Sem.run_bind]
          show ((choose (.mapNext cand.size)).run P w).andThen _ = _
          rw [c1, Result.andThen_ok]
          show (match cand[i]? with
            | some (some e) => _
            | some none => _
            | none => _ : Sem Value).run P w1 = _
          rw [hr]
          cases r <;> rfl
        obtain ⟨r, hr⟩ : ∃ r, cand[i]? = some r := ⟨cand[i], by simp [c2]⟩
        cases r with
        | none =>
          have hold : old.isEmpty = true := by
            apply Classical.byContradiction
            intro hno
            have hm := Array.mem_of_getElem? hr
            simp only [cand, if_neg hno] at hm
            simp at hm
          refine ⟨.tuple #[.bool false], w1, by rw [hrun none hr]; rfl, .tup [.dat .bool (.B false)], hp, hk2 ?_, H1, ?_⟩
          · intro j hj hjs
            apply Classical.byContradiction
            intro hns
            have hp0 : es[j]? = some (es.getD j (.Z, .Z)) := by rw [List.getD_eq_getElem?_getD, List.getElem?_eq_getElem hj]; rfl
            obtain ⟨e, g1, g2, _⟩ := m3.get j _ hp0
            rw [Nat.zero_add] at g2
            have hmem : e ∈ old := by
              simp only [old, left, Array.mem_filter]
              refine ⟨⟨Array.mem_def.2 (List.mem_of_getElem? g1), ?_⟩, ?_⟩
              · rw [g2]; simp [hns]
              · rw [g2]; simpa using hjs
            have := Array.isEmpty_iff.1 hold
            rw [this] at hmem
            simp at hmem
          · show ∃ l, HVs g loc _ l ∧ _ = Value.tuple l.toArray
            refine ⟨[.bool false], ?_, rfl⟩
            simp only [HVs, HC]
            exact ⟨⟨[.bool false], by simp only [Rel, D.bool], rfl⟩, trivial⟩
        | some e =>
          have hm := Array.mem_of_getElem? hr
          have hmem : e ∈ left := by
            simp only [cand, Array.mem_append, Array.mem_map, Option.some.injEq, exists_eq_right] at hm
            rcases hm with hm | hm
            · split at hm <;> simp at hm
            · rcases hm with hm | hm
              · simp only [old, Array.mem_filter] at hm; exact hm.1
              · simp only [new, Array.mem_filter] at hm; exact hm.1
          simp only [left, Array.mem_filter] at hmem
          obtain ⟨hin, hns⟩ := hmem
          obtain ⟨j, hj, hje⟩ := List.getElem_of_mem (Array.mem_def.1 hin)
          simp only [Array.length_toList] at hj
          rw [hl] at hj
          have hp0 : es[j]? = some (es.getD j (.Z, .Z)) := by rw [List.getD_eq_getElem?_getD, List.getElem?_eq_getElem hj]; rfl
          obtain ⟨e', g1, g2, g3, g4⟩ := m3.get j _ hp0
          have hee : e' = e := by
            rw [List.getElem?_eq_getElem (by simp; omega)] at g1
            simp only [Option.some.injEq] at g1
            rw [← g1, ← hje]
          subst hee
          rw [Nat.zero_add] at g2
          have hjs : j ∉ seen := by rw [g2] at hns; simpa using hns
          have k3' : w1.heap[b]? = some (.mapIter (some bm) since seen.toArray last) := by rw [hw1]; exact k3
          have hs := MapKept.heap_set (w := w1) (o' := .mapIter (some bm) since (seen.toArray.push e'.born) es.length) k3'
          have hset : (setObj b (.mapIter (some bm) since (seen.toArray.push e'.born) es.length)).run P w1 = .ok () { w1 with heap := w1.heap.setIfInBounds b (.mapIter (some bm) since (seen.toArray.push e'.born) es.length) } := by
            simp [setObj, Sem.run, k3']
          refine ⟨.tuple #[.bool true, e'.key, e'.val], { w1 with heap := w1.heap.setIfInBounds b (.mapIter (some bm) since (seen.toArray.push e'.born) es.length) }, ?_, .tup [.dat .bool (.B true), .dat ks (es.getD j (.Z, .Z)).1, .dat vs (es.getD j (.Z, .Z)).2], _, hk1 j hj hjs, ⟨?_, H1.2⟩, ?_⟩
          · rw [hrun (some e') hr]
            simp only [Sem.run_bind, hset, Result.andThen_ok, Sem.run_pure]
          · refine HeapRel.set H1.1 ho rfl k1 rfl (by simp) (fun k hk => hs.2 k hk) ⟨rfl, rfl⟩ ⟨b, bm, k1, k2, ?_, fun _ => by omega⟩
            show (w1.heap.setIfInBounds b _)[b]? = _
            rw [hs.1, g2]; simp
          · show ∃ l, HVs g loc _ l ∧ _ = Value.tuple l.toArray
            refine ⟨[.bool true, e'.key, e'.val], ?_, rfl⟩
            simp only [HVs, HC]
            exact ⟨⟨[.bool true], by simp only [Rel, D.bool], rfl⟩, g3, g4, trivial⟩
      · exact hk.elim
    · exact hk.elim
  · exact hk.elim

theorem vcOps_sound (hFo : FOK Fe) (hC : CtxOK P c) (hI : InlOK P w0 g0 loc0 inl) {Q : Exit → Act → World → Prop} {K : REnv → Hp → Nat → Prop} : ∀ (os : List Oper) (re : REnv) (hp : Hp) (nx : Nat) (g : Ghost) (loc : Loc) (a : Act) (w : World),
    vcOps c inl N e all os re hp nx K → g0.le g → loc0.le loc → FRel B g loc N e re a → HeapN w0 hp nx g loc w →
    (∀ re hp nx g' loc' a w, K re hp nx → g.le g' → loc.le loc' → FRel B g' loc' N e re a → HeapN w0 hp nx g' loc' w → Q .normal a w) → wpListIn Fe fn P all.toArray Q os a w
  | [], re, hp, nx, g, loc, a, w, h, _, _, F, H, hQ => hQ re hp nx g loc a w h (Ghost.le_refl g) (Loc.le_refl loc) F H
  | o :: os, re, hp, nx, g, loc, a, w, h, hg0, hl0, F, H, hQ => by
    have ih := vcOps_sound hFo hC hI (Q := Q) (K := K) os
    have cont : ∀ re' hp' nx' g' loc' a' w', vcOps c inl N e all os re' hp' nx' K → g.le g' → loc.le loc' → FRel B g' loc' N e re' a' → HeapN w0 hp' nx' g' loc' w' → wpListIn Fe fn P all.toArray Q os a' w' :=
      fun re' hp' nx' g' loc' a' w' hv hg hl F' H' => ih re' hp' nx' g' loc' a' w' hv (Ghost.le_trans hg0 hg) (Loc.le_trans hl0 hl) F' H' fun r h n g2 l2 a2 w2 hk hg2 hl2 f2 h2 => hQ r h n g2 l2 a2 w2 hk (Ghost.le_trans hg hg2) (Loc.le_trans hl hl2) f2 h2
    refine wpListIn_step fun Kk hKk => ?_
    rw [vcOps_cons] at h
    unfold vcOpsS at h
    split at h
    · exact h.elim
    · rename_i key hkey
      obtain ⟨hw, hks⟩ := keyOf_wanted F hkey o rfl
      split at h
      · -- pick
        rename_i pa px py hop
        split at h
        · exact h.elim
        · rename_i d hdst
          split at h
          · exact h.elim
          · rename_i hdd
            simp only [Bool.and_eq_true, Bool.not_eq_true'] at hdd
            obtain ⟨⟨hdN, hdf⟩, hdk⟩ := hdd
            have hdN' : d < N := blt_lt hdN
            split at h
            · rename_i ta
              split at h
              · rename_i b hrb
                split at h
                · rename_i hv hpick
                  rw [fHV_eq] at h
                  split
                  · rename_i hwant
                    have hkh := hw.1 hwant
                    have hc := (hrb ▸ rho_rel F hkh (.tmp ta)).bool
                    have hF := FRel.put F (h := hv) (v := if b.bool then a.eval px else a.eval py) hdN' (keyFree_spec hdf) (keySlot_spec hdk) (fun hkh => pick_sound hpick (fun v hv => by rw [hv]; rfl) (fun v hv => by rw [hv]; rfl)
                      (fun hb => rho_rel F (by
                        intro z hz
                        rcases List.mem_cons.1 hz with rfl | hz
                        · show a.tmps.getD ta undef = .bool true
                          rw [← hb, ← hc]; rfl
                        · exact hkh z hz) px)
                      (fun hb => rho_rel F (by
                        intro z hz
                        rcases List.mem_cons.1 hz with rfl | hz
                        · show a.tmps.getD ta undef = .bool false
                          rw [← hb, ← hc]; rfl
                        · exact hkh z hz) py)) (fun hn => absurd hkh hn) hks
                    refine Oper.wp_of_opwp hFo (by rw [hop]; simp) (K := fun v w' => v = (if b.bool then a.eval px else a.eval py) ∧ w' = w) ?_ ?_
                    · simp only [execOp, hop, Sem.run_bind, hc, asBool, Sem.run_pure, Result.andThen_ok, OpWp]
                      exact ⟨by trivial, by trivial⟩
                    · rintro v w' ⟨rfl, rfl⟩
                      rw [hdst]
                      exact hKk _ _ (cont _ _ _ g loc _ _ h (Ghost.le_refl g) (Loc.le_refl loc) hF H)
                  · rename_i hwant
                    have hkh : ¬ KeyHolds a.tmps key := fun hh => hwant (hw.2 hh)
                    rw [hdst]
                    exact ⟨fun f _ => hFo.fn f, hKk _ _ (cont _ _ _ g loc _ _ h (Ghost.le_refl g) (Loc.le_refl loc) (FRel.put F hdN' (keyFree_spec hdf) (keySlot_spec hdk) (fun hh => absurd hh hkh) (fun _ => rfl) hks) H)⟩
                · exact h.elim
              · exact h.elim
            · exact h.elim
      · rename_i hnp
        split at h
        · -- an operation of the evaluator
          rename_i hv upd nx' pre hvop
          rw [fHV_eq] at h
          by_cases hwant : Region.wanted o (yielded all.toArray a.tmps) = true
          · have hkh := hw.1 hwant
            rw [if_pos hwant]
            -- its condition holds, and what follows is asked
            have hgo : holds pre ∧ applyEf N re hp key hv upd nx' (fun re hp nx => vcOps c inl N e all os re hp nx K) o.dst := by
              unfold guardEf at h
              split at h
              · split at h
                · exact ⟨trivial, h⟩
                · exact h
              · split at h
                · split at h
                  · exact ⟨trivial, h⟩
                  · refine ⟨?_, h.2⟩
                    have := h.1
                    unfold imp' at this
                    split at this
                    · exact this
                    · exact this (keyCond_of F hkh hks)
                · exact h.2
            obtain ⟨hpre, hap⟩ := hgo
            refine Oper.wp_of_opwp hFo (vop_nodefer hvop) (vop_sound hC (fun x => rho_rel F hkh x) (fun v => rfl) H.1 (H.2 nx (Nat.le_refl _)) (H.2 (nx + 1) (Nat.le_succ _)) hvop hpre) ?_
            rintro v w' ⟨g', loc', hg, hl, hloc, H1, hr⟩
            have H' : HeapN w0 (upd ++ hp) nx' g' loc' w' := ⟨H1, fun o ho => by rw [hloc o (.inr ho)]; exact H.2 o (Nat.le_trans (vop_nx hvop) ho)⟩
            simp only at hr
            have F' := F.mono hg hl
            unfold applyEf at hap
            split at hap
            · rename_i hdst
              rw [hdst, put_none]
              split at hap
              · exact hKk _ _ (cont _ _ _ g' loc' _ _ hap hg hl F' H')
              · rw [fU_eq] at hap
                exact hKk _ _ (cont _ _ _ g' loc' _ _ hap hg hl F' H')
              · exact hap.elim
            · rename_i d hdst
              rw [hdst]
              split at hap
              · exact hap.elim
              · rename_i hdd
                simp only [Bool.and_eq_true, Bool.not_eq_true'] at hdd
                obtain ⟨⟨hdN, hdf⟩, hdk⟩ := hdd
                have hF := FRel.put F' (h := hv) (v := v) (blt_lt hdN) (keyFree_spec hdf) (keySlot_spec hdk) (fun _ => hr) (fun hn => absurd hkh hn) hks
                split at hap
                · exact hKk _ _ (cont _ _ _ g' loc' _ _ hap hg hl hF H')
                · rw [fU_eq] at hap
                  exact hKk _ _ (cont _ _ _ g' loc' _ _ hap hg hl hF H')
                · exact hKk _ _ (cont _ _ _ g' loc' _ _ hap hg hl hF H')
                · exact hap.elim
          · have hkh : ¬ KeyHolds a.tmps key := fun hh => hwant (hw.2 hh)
            rw [if_neg hwant]
            have hne : key ≠ [] := by rintro rfl; exact hkh fun x hx => by simp at hx
            unfold guardEf at h
            split at h
            · exact absurd rfl hne
            · split at h
              · rename_i d hdst
                have hap : applyEf N re hp key hv [] nx' (fun re hp nx => vcOps c inl N e all os re hp nx K) (some d) := by
                  rw [hdst] at h
                  split at h
                  · exact h
                  · exact h.2
                simp only [applyEf] at hap
                split at hap
                · exact hap.elim
                · rename_i hdd
                  simp only [Bool.and_eq_true, Bool.not_eq_true'] at hdd
                  obtain ⟨⟨hdN, hdf⟩, hdk⟩ := hdd
                  rw [hdst]
                  have hF := FRel.put F (h := hv) (v := undef) (blt_lt hdN) (keyFree_spec hdf) (keySlot_spec hdk) (fun hh => absurd hh hkh) (fun _ => rfl) hks
                  have Hn : HeapN w0 hp nx' g loc w := ⟨H.1, fun o ho => H.2 o (Nat.le_trans (vop_nx hvop) ho)⟩
                  exact ⟨fun f _ => hFo.fn f, hKk _ _ (cont _ _ _ g loc _ _ hap (Ghost.le_refl g) (Loc.le_refl loc) hF Hn)⟩
              · exact absurd (keyHolds_of F h.1 hks) hkh
        · -- a call that is walked into
          rename_i hvop
          split at h
          · rename_i f args tys hop
            split at h
            · rename_i n caps hrf
              rw [argsK_eq] at h
              simp only [fHV_eq] at h
              have hkh : KeyHolds a.tmps [] := fun x hx => by simp at hx
              rw [if_pos (hw.2 hkh)]
              have hf := rho_rel F hkh f
              rw [hrf] at hf
              obtain ⟨us, h1, h2⟩ := hf
              simp only [HC] at h1
              obtain ⟨cs, h3, rfl⟩ := h1
              simp only [HV.agg, mkV, List.headD_cons] at h2
              have hrun : ((execOp a.eval o).run P w) = (callFunc n ((args.toList.map a.eval) ++ cs).toArray).run P w := by
                simp only [execOp, hop, resolve, h2, Deferred.ofValue, Sem.run_bind, Sem.run_pure, Result.andThen_ok, invoke]
                congr 2
                rw [← Array.toList_inj]; simp
              refine Oper.wp_of_opwp hFo (by rw [hop]; simp) ?_ ?_ (K := fun v w' => ∃ h hp' nx' g' loc', (match o.dst with
                | none => vcOps c inl N e all os re hp' nx' K
                | some d => match Nat.blt d N && keyFree d re with
                  | true => vcOps c inl N e all os ((d, [], h) :: re) hp' nx' K
                  | false => False) ∧ g.le g' ∧ loc.le loc' ∧ HeapN w0 hp' nx' g' loc' w' ∧ HRel g' loc' h v)
              · rw [hrun]
                refine hI (.fn n) _ hp nx _ g loc w _ _ h hg0 hl0 H ?_ (by simp [HVs_length h3]) rfl
                intro i hh v h4 h5
                by_cases hi : i < args.toList.length
                · rw [List.getElem?_append_left (by simpa using hi), List.getElem?_map] at h4 h5
                  cases hx : args.toList[i]? with
                  | none => rw [hx] at h4; simp at h4
                  | some x =>
                    rw [hx] at h4 h5
                    simp only [Option.map_some, Option.some.injEq] at h4 h5
                    subst h4; subst h5; exact rho_rel F hkh x
                · rw [List.getElem?_append_right (by simpa using hi)] at h4 h5
                  simp only [List.length_map] at h4 h5
                  obtain ⟨v', h6, h7⟩ := HVs_get h3 h4
                  rw [h6] at h5
                  simp only [Option.some.injEq] at h5; subst h5; exact h7
              · rintro v w' ⟨hv, hp', nx', g', loc', hc, hg, hl, H', hr⟩
                have F' := F.mono hg hl
                split at hc
                · rename_i hdst
                  rw [hdst, put_none]
                  exact hKk _ _ (cont _ _ _ g' loc' _ _ hc hg hl F' H')
                · rename_i d hdst
                  rw [hdst]
                  split at hc
                  · rename_i hdd
                    simp only [Bool.and_eq_true] at hdd
                    have hF := FRel.put F' (h := hv) (v := v) (key := []) (blt_lt hdd.1) (keyFree_spec hdd.2) (fun x hx => by simp at hx) (fun _ => hr) (fun hn => absurd (fun x hx => by simp at hx) hn) (fun _ _ _ _ h => by cases h)
                    exact hKk _ _ (cont _ _ _ g' loc' _ _ hc hg hl hF H')
                  · exact hc.elim
            · rename_i y hrf
              rw [argsK_eq] at h
              simp only [fHV_eq] at h
              have hkh : KeyHolds a.tmps [] := fun x hx => by simp at hx
              rw [if_pos (hw.2 hkh)]
              have hf := rho_rel F hkh f
              rw [hrf] at hf
              obtain ⟨us, h1, h2⟩ := hf
              simp only [HC] at h1
              obtain ⟨l, lr, h3, rfl⟩ := h1
              simp only [HV.agg, mkV, List.headD_cons] at h2
              have hrun : ((execOp a.eval o).run P w) = (Instr.yield l (args.toList.map a.eval).toArray).run P w := by
                simp only [execOp, hop, resolve, h2, Deferred.ofValue, Sem.run_bind, Sem.run_pure, Result.andThen_ok, invoke]
                congr 2
                rw [← Array.toList_inj]; simp
              refine Oper.wp_of_opwp hFo (by rw [hop]; simp) ?_ ?_ (K := fun v w' => ∃ h hp' nx' g' loc', (match o.dst with
                | none => vcOps c inl N e all os re hp' nx' K
                | some d => match Nat.blt d N && keyFree d re with
                  | true => vcOps c inl N e all os ((d, [], h) :: re) hp' nx' K
                  | false => False) ∧ g.le g' ∧ loc.le loc' ∧ HeapN w0 hp' nx' g' loc' w' ∧ HRel g' loc' h v)
              · rw [hrun]
                refine hI (.yl y) _ hp nx _ g loc w _ _ h hg0 hl0 H ?_ (by simp) ⟨l, lr, h3, rfl⟩
                intro i hh v h4 h5
                rw [List.getElem?_map] at h4 h5
                cases hx : args.toList[i]? with
                | none => rw [hx] at h4; simp at h4
                | some x =>
                  rw [hx] at h4 h5
                  simp only [Option.map_some, Option.some.injEq] at h4 h5
                  subst h4; subst h5; exact rho_rel F hkh x
              · rintro v w' ⟨hv, hp', nx', g', loc', hc, hg, hl, H', hr⟩
                have F' := F.mono hg hl
                split at hc
                · rename_i hdst
                  rw [hdst, put_none]
                  exact hKk _ _ (cont _ _ _ g' loc' _ _ hc hg hl F' H')
                · rename_i d hdst
                  rw [hdst]
                  split at hc
                  · rename_i hdd
                    simp only [Bool.and_eq_true] at hdd
                    have hF := FRel.put F' (h := hv) (v := v) (key := []) (blt_lt hdd.1) (keyFree_spec hdd.2) (fun x hx => by simp at hx) (fun _ => hr) (fun hn => absurd (fun x hx => by simp at hx) hn) (fun _ _ _ _ h => by cases h)
                    exact hKk _ _ (cont _ _ _ g' loc' _ _ hc hg hl hF H')
                  · exact hc.elim
            · exact h.elim
          · rename_i x s hop
            split at h
            · rename_i d hdst
              split at h
              · rename_i hdd
                simp only [Bool.and_eq_true] at hdd
                have hkh : KeyHolds a.tmps [] := fun x hx => by simp at hx
                rw [if_pos (hw.2 hkh)]
                obtain ⟨v', w', r1, h', hp', r2, r3, r4⟩ := next_run (P := P) H (rho_rel F hkh x) h o.type
                refine Oper.wp_of_opwp hFo (by rw [hop]; simp) (K := fun v w'' => v = v' ∧ w'' = w') ?_ ?_
                · have : (execOp a.eval o).run P w = .ok (.value v') w' := by
                    simp only [execOp, hop, Sem.run_bind, r1, Result.andThen_ok, Sem.run_pure]
                  rw [this]
                  exact ⟨rfl, rfl⟩
                · rintro v w'' ⟨rfl, rfl⟩
                  rw [hdst]
                  have hF := FRel.put F (h := h') (v := v) (key := []) (blt_lt hdd.1) (keyFree_spec hdd.2) (fun x hx => by simp at hx) (fun _ => r4) (fun hn => absurd (fun x hx => by simp at hx) hn) (fun _ _ _ _ h => by cases h)
                  exact hKk _ _ (cont _ _ _ g loc _ _ r2 (Ghost.le_refl g) (Loc.le_refl loc) hF r3)
              · exact h.elim
            · exact h.elim
          · rename_i op t x y ty hop
            split at h
            · rename_i d hdst
              split at h
              · rename_i hdd
                simp only [Bool.and_eq_true] at hdd
                have hkh : KeyHolds a.tmps [] := fun x hx => by simp at hx
                rw [if_pos (hw.2 hkh)]
                obtain ⟨v', r1, h', r2, r4⟩ := nil_run (P := P) (w := w) hC (rho_rel F hkh x) h (a := a)
                refine Oper.wp_of_opwp hFo (by rw [hop]; simp) (K := fun v w'' => v = v' ∧ w'' = w) ?_ ?_
                · have : (execOp a.eval o).run P w = .ok (.value v') w := by
                    simp only [execOp, hop]
                    rw [Sem.run_bind] at r1 ⊢
                    simp only [Sem.run_bind] at r1 ⊢
                    rw [r1]
                    simp only [Result.andThen_ok, Sem.run_pure]
                  rw [this]
                  exact ⟨rfl, rfl⟩
                · rintro v w'' ⟨rfl, rfl⟩
                  rw [hdst]
                  have hF := FRel.put F (h := h') (v := v) (key := []) (blt_lt hdd.1) (keyFree_spec hdd.2) (fun x hx => by simp at hx) (fun _ => r4) (fun hn => absurd (fun x hx => by simp at hx) hn) (fun _ _ _ _ h => by cases h)
                  exact hKk _ _ (cont _ _ _ g loc _ _ r2 (Ghost.le_refl g) (Loc.le_refl loc) hF H)
              · exact h.elim
            · exact h.elim
          · exact h.elim
end
end Go.Vm
