/- A law that gives true: its statement, out of the function's account. -/
import Derived.Test.YtjcfnooplhoheaaVnC
noncomputable section
namespace Go.Vm
open Go
open Go.ChangeShapes Go.WideShapes Go.ChangeAt Go.RowKit
set_option linter.unusedSimpArgs false

section
variable {H : Type} {enc : TypeId × Value → H} {P : Program} {W W' : World} {base : Nat}

theorem value_shape {s : Sh} {t : TypeId} {v : Value} (hl : Lay P s t) (hval : Value.okWide P W .any base t v) : v = mkV s.agg v.cells.toList := by
  cases s with
  | struct ss =>
    simp only [Lay] at hl
    obtain ⟨_, ⟨fs, hu, _⟩, _⟩ := hl
    simp only [Value.okWide, hu] at hval
    obtain ⟨cs, rfl, _⟩ := hval
    simp [Sh.agg, mkV, Value.cells]
  | arr n s =>
    simp only [Lay] at hl
    obtain ⟨_, ⟨e, hu, _⟩, _⟩ := hl
    simp only [Value.okWide, hu] at hval
    obtain ⟨cs, rfl, _⟩ := hval
    simp [Sh.agg, mkV, Value.cells]
  | int k =>
    simp only [Lay] at hl
    cases v <;> simp_all [Value.okWide, Cell.okWide, Cell.ok, Sh.agg, mkV, Value.cells]
  | bool =>
    simp only [Lay] at hl
    cases v <;> simp_all [Value.okWide, Cell.okWide, Cell.ok, Sh.agg, mkV, Value.cells]
  | str =>
    simp only [Lay] at hl
    cases v <;> simp_all [Value.okWide, Cell.okWide, Cell.ok, Sh.agg, mkV, Value.cells]
  | slice s =>
    simp only [Lay] at hl
    obtain ⟨_, e, hu, _⟩ := hl
    cases v <;> simp_all [Value.okWide, Cell.okWide, Cell.ok, Sh.agg, mkV, Value.cells]
  | ref => simp [Lay] at hl

/-- The arguments' shapes and types. -/
def argsB (P : Program) : List Sh → List TypeId → Bool
  | [], [] => true
  | s :: ss, t :: ts => layB P s t && s.full && P.readableRec t && Nat.blt t P.types.size && argsB P ss ts
  | _, _ => false

theorem args_rel : ∀ {ss : List Sh} {ts : List TypeId} {vs : List Value} {ds : List (DataW H)} {ps : List MemPlace}, argsB P ss ts = true → (∀ (j : Nat) t v, ts[j]? = some t → vs[j]? = some v → Value.okWide P W .any base t v) →
    DataW.TrodAll enc P W 0 (fun _ => true) true ts vs ds ps → ∃ dd, ArgsRel (whole W) ss dd vs
  | [], [], [], ds, ps, _, _, _ => ⟨[], by simp only [ArgsRel]⟩
  | s :: ss, t :: ts, v :: vs, d :: ds, ps, hb, hval, h => by
    simp only [argsB, Bool.and_eq_true] at hb
    obtain ⟨⟨⟨⟨h1, h2⟩, _⟩, _⟩, h5⟩ := hb
    obtain ⟨p, q, ⟨n, hd⟩, hrest, _⟩ := h
    obtain ⟨dd, hdd⟩ := args_rel h5 (fun j t v a b => hval (j + 1) t v (by simpa using a) (by simpa using b)) hrest
    obtain ⟨d0, hd0⟩ := trod_rel n s t _ _ (layB_ok h1) h2 hd
    refine ⟨d0 :: dd, ?_⟩
    simp only [ArgsRel]
    exact ⟨HRel.dat_iff.2 ⟨_, hd0, value_shape (layB_ok h1) (hval 0 t v rfl rfl)⟩, hdd⟩
  | [], [], _ :: _, _, _, _, _, h => by simp [DataW.TrodAll] at h
  | [], _ :: _, _, _, _, h, _, _ => by simp [argsB] at h
  | _ :: _, [], _, _, _, h, _, _ => by simp [argsB] at h
  | _ :: _, _ :: _, [], _, _, _, _, h => by simp [DataW.TrodAll] at h
  | _ :: _, _ :: _, _ :: _, [], _, _, _, h => by simp [DataW.TrodAll] at h

theorem trodAll_len : ∀ {ts : List TypeId} {vs : List Value} {ds : List (DataW H)} {ps : List MemPlace} {sp : Nat → Bool} {hd : Bool}, DataW.TrodAll enc P W 0 sp hd ts vs ds ps → ds.length = ts.length
  | [], [], [], _, _, _, _ => rfl
  | _ :: _, _ :: _, _ :: _, _, _, _, ⟨_, _, _, h, _⟩ => by simp [trodAll_len h]
  | [], [], _ :: _, _, _, _, h => by simp [DataW.TrodAll] at h
  | [], _ :: _, _, _, _, _, h => by simp [DataW.TrodAll] at h
  | _ :: _, [], _, _, _, _, h => by simp [DataW.TrodAll] at h
  | _ :: _, _ :: _, [], _, _, _, h => by simp [DataW.TrodAll] at h

theorem ext_same (h : ExtAll W W') {p : MemPlace} (hp : p.block < W.heap.size) : W.sameAt W' p := by
  cases p with
  | cell b o => exact World.cell?_of_block (w := W) (h.2.1 b hp)
  | map b => exact h.2.1 b hp

theorem args_stay (hl : laidOutB P = true) (he : ExtAll W W') {sp : Nat → Bool} : ∀ {ss : List Sh} {ts : List TypeId} {vs : List Value} {ds : List (DataW H)} {ps : List MemPlace}, argsB P ss ts = true →
    DataW.TrodAll enc P W 0 (fun _ => true) true ts vs ds ps → (∀ p ∈ ps, p.block < W.heap.size) → (∀ p ∈ ps, sp p.block = true) → DataW.TrodAll enc P W' 0 sp true ts vs ds ps
  | [], [], [], [], ps, _, h, _, _ => h
  | s :: ss, t :: ts, v :: vs, d :: ds, ps, hb, h, hlt, hs => by
    simp only [argsB, Bool.and_eq_true] at hb
    obtain ⟨⟨⟨⟨_, _⟩, h3⟩, h4⟩, h5⟩ := hb
    obtain ⟨p, q, hd, hrest, rfl⟩ := h
    refine ⟨p, q, WideElems.Trod_stays hl h3 (nat_blt h4) hd (fun x hx => ext_same he (hlt x (by simp [hx]))) (fun x hx => hs x (by simp [hx])), ?_, rfl⟩
    exact args_stay hl he h5 hrest (fun x hx => hlt x (by simp [hx])) (fun x hx => hs x (by simp [hx]))
  | [], [], [], _ :: _, _, _, h, _, _ => by simp [DataW.TrodAll] at h
  | [], [], _ :: _, _, _, _, h, _, _ => by simp [DataW.TrodAll] at h
  | [], _ :: _, _, _, _, h, _, _, _ => by simp [argsB] at h
  | _ :: _, [], _, _, _, h, _, _, _ => by simp [argsB] at h
  | _ :: _, _ :: _, [], _, _, _, h, _, _ => by simp [DataW.TrodAll] at h
  | _ :: _, _ :: _, _ :: _, [], _, _, h, _, _ => by simp [DataW.TrodAll] at h

theorem ext_keptBut (h : ExtAll W W') (may : MemPlace → Prop) : W.keptBut W' may := by
  refine ⟨h.2.2.1, h.2.2.2, fun i hi => ?_⟩
  rw [h.2.1 i hi]
  split <;> simp_all

theorem post_of_ext {f : Func} {s : ChangeSpec} {apart fresh handsOn again : Bool} {args : Array Value} {v : Value} {ds : List (DataW H)} {before : List MemPlace} (hl : laidOutB P = true) {ss : List Sh} (hB : argsB P ss f.params.toList = true)
    (hvars : s.vars = []) (hfn : (s.fn H (ds ++ [])).results = [.lit (.bool true)] ∧ (s.fn H (ds ++ [])).args = ds ∧ (s.fn H (ds ++ [])).vars = [])
    (hW : DataW.Whole enc P f.params.toList s.vars apart W args.toList ds [] before) (hA : DataW.TrodAll enc P W 0 (fun _ => true) true f.params.toList args.toList ds before) (he : ExtAll W W')
    {tb : TypeId} (hrt : f.resultTypes = #[tb]) (hub : P.underlying tb = some .bool) (hv : v = .bool true) : s.post enc P f apart fresh handsOn again W args v W' := by
  subst hv
  have hlt : ∀ p ∈ before, p.block < W.heap.size := fun p hp => hW.lt p hp
  have hres : ∀ (b : Nat) (sp : Nat → Bool) (hd : Bool), DataW.TrodAll enc P W' b sp hd f.resultTypes.toList ((Value.bool true).resultList f.resultTypes.size) (s.fn H (ds ++ [])).results [] := by
    intro b sp hd
    rw [hfn.1, hrt]
    exact trodAll_mk1 (shut_bool hub true)
  have hargs : ∀ sp : Nat → Bool, (∀ p ∈ before, sp p.block = true) → DataW.TrodAll enc P W' 0 sp true f.params.toList args.toList (s.fn H (ds ++ [])).args before := by
    intro sp hs
    rw [hfn.2.1]
    exact args_stay hl he hB hA hlt hs
  have hvs : ∀ sp : Nat → Bool, DataW.TrodVars enc P W' sp s.vars (s.fn H (ds ++ [])).vars [] := by
    intro sp
    rw [hvars, hfn.2.2]; rfl
  have hold : ∀ p ∈ before, (fun b => decide (b < W.heap.size)) p.block = true := fun p hp => by simpa using hlt p hp
  refine ⟨ds, [], before, [], before, [], hW, hres _ _ _, hargs _ hold, hvs _, World.keptBut_mono (fun p hp => ⟨hp, ?_⟩) (ext_keptBut he (· ∈ before)), fun _ => ?_⟩
  · exact Or.inr (by simpa using hp)
  · obtain ⟨_, _, _, _, _, hz, hn⟩ := hW
    refine ⟨ok_one hrt rfl (okWide_bool_mk hub _), _, _, ([] ++ before) ++ [], ⟨[] ++ before, [], trodAll_append (hargs _ (fun _ _ => rfl)) (hres _ _ _), hvs _, rfl, ?_, ?_⟩, ?_⟩
    · intro b off hp
      have hp' : MemPlace.cell b off ∈ before := by simpa using hp
      have := hz b off hp'
      rw [← this]
      exact World.frozen?_of_block (w := W) (he.2.1 b (hlt _ hp'))
    · intro ha
      have := hn ha
      simpa using this
    · intro p hp _
      simpa using hp

/-- **A law's contract.** -/
theorem law_contract {f : FuncId} {fn : Func} {S : Sum} {s : ChangeSpec} {apart fresh handsOn again : Bool} (hsum : SumOK P f S) (hf : P.funcs[f]? = some fn) (hbd : fn.body.isSome = true) (hn : fn.name ≠ "runtime.NumGoroutine")
    (hl : laidOutB P = true) (hB : argsB P S.shs fn.params.toList = true) (hres : ∀ ds, S.res ds = .dat .bool (.B true)) (hpre : ∀ ds, holds (S.pre ds)) {tb : TypeId} (hrt : fn.resultTypes = #[tb]) (hub : P.underlying tb = some .bool)
    (hvars : s.vars = []) (hfn : ∀ ds : List (DataW H), ds.length = fn.params.size → (s.fn H ds).results = [.lit (.bool true)] ∧ (s.fn H ds).args = ds ∧ (s.fn H ds).vars = [])
    (W : World) (base : Nat) (args : Array Value) (ds gs : List (DataW H)) (before : List MemPlace)
    (hval : ∀ (j : Nat) t v, fn.params[j]? = some t → args[j]? = some v → Value.okWide P W .any base t v) (hW : DataW.Whole enc P fn.params.toList s.vars apart W args.toList ds gs before) :
    Calls P f args W fun e W' => ∃ v, e = .returned v ∧ s.post enc P fn apart fresh handsOn again W args v W' := by
  have hW0 := hW
  obtain ⟨p, q, hA, hV, rfl, _, _⟩ := hW0
  rw [hvars] at hV
  obtain ⟨rfl, rfl⟩ := trodVars_none hV
  simp only [List.append_nil] at hW
  obtain ⟨dd, hdd⟩ := args_rel hB (fun j t v a b => hval j t v (by simpa using a) (by simpa using b)) hA
  have h1 := hsum (whole W) W dd args.toList (fun b x h => h) hdd (hpre dd)
  rw [run_callFunc hf hbd hn] at h1
  simp only [OpWp] at h1
  have e9 : args.toList.toArray = args := by simp
  rw [e9] at h1
  refine h1.mono fun e W' ⟨v, he, g', _, _, _, hx, hr⟩ => ⟨v, he, ?_⟩
  rw [hres] at hr
  have hlen := trodAll_len hA
  exact post_of_ext hl hB hvars (by rw [List.append_nil]; exact hfn _ (by simpa using hlen)) hW hA hx hrt hub hr.bool
end
end Go.Vm
