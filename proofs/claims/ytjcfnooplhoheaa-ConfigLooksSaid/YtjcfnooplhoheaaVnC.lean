/- From the form's reading of an argument to the evaluator's data. -/
import Derived.Test.YtjcfnooplhoheaaVnB
import Derived.ProofKit
noncomputable section
namespace Go.Vm
open Go
open Classical
set_option linter.unusedSimpArgs false

mutual
/-- No slice of things without cells. -/
def Sh.full : Sh → Bool
  | .struct ss => Sh.fulls ss
  | .arr _ s => s.full
  | .slice s => Nat.blt 0 s.size && s.full
  | _ => true
def Sh.fulls : List Sh → Bool
  | [] => true
  | s :: ss => s.full && Sh.fulls ss
end

section
variable {H : Type} {enc : TypeId × Value → H} {P : Program} {w : World} {base : Nat} {held : Bool}

theorem Lay.cells {s : Sh} {t : TypeId} (h : Lay P s t) : P.cellsOf t = s.size := by
  obtain ⟨i, h1, h2, _⟩ := h.ty
  simp [Program.cellsOf, h1, h2]

theorem cells?_some {a : Addr} {n : Nat} {cs : List Value} (h : w.cells? base a n = some cs) (hn : 0 < n) : a.spot = none ∧ ∃ row T fr, w.heap[a.block]? = some (.cells row T fr) ∧ a.off + n ≤ row.size ∧ cs = chunk row.toList a.off n := by
  unfold World.cells? at h
  split at h
  · have hlen := mapM_some_length h
    simp only [List.length_range] at hlen
    have get : ∀ i, i < n → w.cell? (a.add i) = cs[i]? := fun i hi => mapM_some_get h i i (by simp [hi])
    have cell0 : ∀ i, i < n → (i = 0 → a.spot = none) ∧ ∃ row T fr, w.heap[a.block]? = some (.cells row T fr) ∧ row[a.off + i]? = cs[i]? := by
      intro i hi
      have h1 := get i hi
      have h2 : cs[i]? = some cs[i] := by simp [hlen, hi]
      rw [h2] at h1
      unfold World.cell? at h1
      have e1 : (a.add i).block = a.block := by unfold Addr.add; split <;> rfl
      have e2 : (a.add i).off = a.off + i := by unfold Addr.add; split <;> simp_all
      have e3 : i = 0 → (a.add i).spot = a.spot := fun hi => by simp [Addr.add, hi]
      rw [e1, e2] at h1
      split at h1
      · rename_i row T fr hb
        split at h1
        · cases h1
        · rename_i hs
          exact ⟨fun hi => by rw [e3 hi] at hs; cases hh : a.spot <;> simp_all, row, T, fr, hb, by rw [h1, h2]⟩
      · cases h1
    obtain ⟨hs, row, T, fr, hb, _⟩ := cell0 0 hn
    have all : ∀ i, i < n → row[a.off + i]? = cs[i]? := by
      intro i hi
      obtain ⟨_, row', T', fr', hb', hr⟩ := cell0 i hi
      rw [hb] at hb'
      simp only [Option.some.injEq, Obj.cells.injEq] at hb'
      rw [hb'.1]; exact hr
    have hsz : a.off + n ≤ row.size := by
      have := all (n - 1) (by omega)
      have h2 : cs[n - 1]? = some (cs[n - 1]'(by omega)) := by simp
      rw [h2] at this
      have := (Array.getElem?_eq_some_iff.1 this).1
      omega
    refine ⟨hs rfl, row, T, fr, hb, hsz, ?_⟩
    apply List.ext_getElem?
    intro i
    simp only [chunk, List.getElem?_take, List.getElem?_drop]
    by_cases hi : i < n
    · rw [if_pos hi, ← all i hi]; simp
    · rw [if_neg hi]; simp; omega
  · cases h

/-- What the shape's own reading asks of a part. -/
def Parts (enc : TypeId × Value → H) (P : Program) (w : World) (base : Nat) (held : Bool) (n : Nat) (s : Sh) : Prop :=
  ∀ (t : TypeId) (cs : List Value) x, Lay P s t → s.full = true → DataW.trod enc P w base (fun _ => true) held n t cs = some x → ∃ d, Rel (whole w) s d cs

theorem lays_rel {n : Nat} : ∀ {ss : List Sh} {off : Nat} {fs : List Field} {cs : List Value} {xs : List (DataW H × List MemPlace)}, (∀ s ∈ ss, Parts enc P w base held n s) → Sh.fulls ss = true → Lays P ss off fs → Sh.sizes ss + off ≤ cs.length →
    (fs.mapM fun f => DataW.trod enc P w base (fun _ => true) held n f.type ((cs.drop f.offset).take (P.cellsOf f.type))) = some xs →
    ∃ ds : List D, ds.length = ss.length ∧ ∀ i d, (∀ j, j < ds.length → d.nth (i + j) = ds.getD j .Z) → Rels (whole w) ss i d ((cs.drop off).take (Sh.sizes ss))
  | [], off, [], cs, xs, _, _, _, _, _ => ⟨[], rfl, fun i d _ => by simp [Rels, Sh.sizes]⟩
  | s :: ss, off, f :: fs, cs, xs, ih, hfull, hl, hlen, hm => by
    simp only [Lays] at hl
    obtain ⟨l1, _, l3, l4, l5⟩ := hl
    simp only [Sh.sizes] at hlen
    simp only [Sh.fulls, Bool.and_eq_true] at hfull
    rw [List.mapM_cons] at hm
    simp only [Option.bind_eq_bind, Option.bind_eq_some_iff, Option.pure_def, Option.some.injEq] at hm
    obtain ⟨x, hx, xs', hxs, rfl⟩ := hm
    rw [l1, l4.cells] at hx
    obtain ⟨d0, hd0⟩ := ih s (by simp) f.type _ x l4 hfull.1 hx
    obtain ⟨ds, hds, hr⟩ := lays_rel (fun s hs => ih s (by simp [hs])) hfull.2 l5 (by omega) hxs
    refine ⟨d0 :: ds, by simp [hds], fun i d hd => ?_⟩
    simp only [Rels, Sh.sizes]
    have e1 : ((cs.drop off).take (s.size + Sh.sizes ss)).take s.size = (cs.drop off).take s.size := by rw [List.take_take]; congr 1; omega
    have e2 : ((cs.drop off).take (s.size + Sh.sizes ss)).drop s.size = (cs.drop (off + s.size)).take (Sh.sizes ss) := by
      rw [List.drop_take, List.drop_drop]
      congr 1; omega
    refine ⟨by simp; omega, ?_, ?_⟩
    · rw [e1]
      have := hd 0 (by simp)
      simp only [Nat.add_zero, List.getD_cons_zero] at this
      rw [this]; exact hd0
    · rw [e2]
      refine hr (i + 1) d fun j hj => ?_
      have := hd (j + 1) (by simp; omega)
      simp only [List.getD_cons_succ] at this
      rw [← this]; congr 1; omega
  | [], _, _ :: _, _, _, _, _, h, _, _ => by simp [Lays] at h
  | _ :: _, _, [], _, _, _, _, h, _, _ => by simp [Lays] at h

theorem trod_rel : ∀ (n : Nat) (s : Sh), Parts enc P w base held n s := by
  intro n
  induction n with
  | zero => intro s t cs x _ _ h; simp [DataW.trod] at h
  | succ n ih =>
    intro s t cs x hl hfull h
    rw [DataW.trod_step] at h
    have hlc := hl.cells
    cases s with
    | int k =>
      simp only [Lay] at hl
      unfold DataW.trodStep at h
      rw [hl.2] at h
      split at h
      case h_2 k1 k' m hu =>
        simp only [Option.some.injEq, TypeDesc.int.injEq] at hu; subst hu
        split at h
        · rename_i hk
          obtain ⟨rfl, hwf⟩ := hk
          refine ⟨.I m, ?_⟩
          simp only [Rel, D.int]
          simp only [Lit.wf, Bool.and_eq_true, decide_eq_true_eq] at hwf
          exact ⟨trivial, hwf⟩
        · cases h
      all_goals first | (cases h; done) | simp_all
    | bool =>
      simp only [Lay] at hl
      unfold DataW.trodStep at h
      rw [hl.2] at h
      split at h
      case h_1 b hu => exact ⟨.B b, by simp only [Rel, D.bool]⟩
      all_goals first | (cases h; done) | simp_all
    | str =>
      simp only [Lay] at hl
      unfold DataW.trodStep at h
      rw [hl.2] at h
      split at h
      case h_4 b hu => exact ⟨.S b, by simp only [Rel, D.str]⟩
      all_goals first | (cases h; done) | simp_all
    | struct ss =>
      simp only [Lay] at hl
      obtain ⟨_, ⟨fs, hu, hls⟩, _⟩ := hl
      unfold DataW.trodStep at h
      rw [hu] at h
      split at h
      case h_9 fs' hu' =>
        simp only [Option.some.injEq, TypeDesc.struct.injEq] at hu'; subst hu'
        split at h
        · rename_i hlen
          rw [hlc] at hlen
          simp only [Option.map_eq_some_iff] at h
          obtain ⟨xs, hxs, _⟩ := h
          obtain ⟨ds, hds, hr⟩ := lays_rel (fun s _ => ih s) (by simpa [Sh.full] using hfull) hls (by simp only [Sh.size] at hlen; omega) hxs
          refine ⟨.L ds, ?_⟩
          simp only [Rel]
          have := hr 0 (.L ds) (fun j hj => by simp [D.nth])
          simp only [List.drop_zero] at this
          rwa [List.take_of_length_le (by simp only [Sh.size] at hlen; omega)] at this
        · cases h
      all_goals first | (cases h; done) | simp_all
    | arr m s =>
      simp only [Lay] at hl
      obtain ⟨_, ⟨e, hu, hls⟩, _⟩ := hl
      unfold DataW.trodStep at h
      rw [hu] at h
      simp only at h
      · split at h
        · rename_i hlen
          rw [hlc] at hlen
          simp only [Option.map_eq_some_iff] at h
          obtain ⟨xs, hxs, _⟩ := h
          have hlx := mapM_some_length hxs
          have each : ∀ j, j < m → ∃ d, Rel (whole w) s d (chunk cs (j * s.size) s.size) := by
            intro j hj
            have := mapM_some_get hxs j j (by simp [hj])
            have h2 : xs[j]? = some (xs[j]'(by simp at hlx; omega)) := by simp
            rw [h2, hls.cells] at this
            exact ih s e _ _ hls (by simpa [Sh.full] using hfull) this
          refine ⟨.F fun j => if h : j < m then Classical.choose (each j h) else .Z, ?_⟩
          simp only [Rel]
          refine ⟨by simpa [Sh.size] using hlen, fun j hj => ?_⟩
          simp only [D.nth, dif_pos hj]
          exact Classical.choose_spec (each j hj)
        · cases h
    | slice s =>
      simp only [Lay] at hl
      obtain ⟨_, e, hu, hls⟩ := hl
      simp only [Sh.full, Bool.and_eq_true] at hfull
      have hpos : 0 < s.size := nat_blt hfull.1
      unfold DataW.trodStep at h
      rw [hu] at h
      split at h
      case h_7 => exact ⟨.L [], by simp only [Rel, D.list]; exact ⟨none, 0, rfl, by simp⟩⟩
      case h_8 e' a len cap hu' =>
        simp only [Option.some.injEq, TypeDesc.slice.injEq] at hu'; subst hu'
        simp only at h
        split at h
        · rename_i hc
          obtain ⟨hbase, hlc', hcap⟩ := hc
          simp only [Option.bind_eq_some_iff, if_true, Option.map_eq_some_iff] at h
          obtain ⟨xs, hxs, ys, hys, _⟩ := h
          rw [hls.cells] at hxs hys
          have hlx := mapM_some_length hxs
          have hly := mapM_some_length hys
          simp only [List.length_range] at hlx hly
          have e1 : ∀ k, (a.add k).block = a.block ∧ (a.add k).off = a.off + k ∧ (k = 0 → (a.add k).spot = a.spot) := fun k => ⟨by unfold Addr.add; split <;> rfl, by unfold Addr.add; split <;> simp_all, fun hk => by simp [Addr.add, hk]⟩
          have part : ∀ k, k < cap → (k = 0 → a.spot = none) ∧ ∃ row T fr, w.heap[a.block]? = some (.cells row T fr) ∧ a.off + k * s.size + s.size ≤ row.size ∧ ∃ x, DataW.trod enc P w base (fun _ => true) held n e (chunk row.toList (a.off + k * s.size) s.size) = some x := by
            intro k hk
            have : ∃ x, ((w.cells? base (a.add (k * s.size)) s.size).bind (DataW.trod enc P w base (fun _ => true) held n e)) = some x := by
              by_cases hkl : k < len
              · have := mapM_some_get hxs k k (by simp [hkl])
                exact ⟨xs[k]'(by omega), by rw [this]; simp⟩
              · have := mapM_some_get hys (k - len) (k - len) (List.getElem?_range (by omega))
                have e2 : len + (k - len) = k := by omega
                rw [e2] at this
                exact ⟨ys[k - len]'(by omega), by rw [this]; simp⟩
            obtain ⟨x, hx⟩ := this
            simp only [Option.bind_eq_some_iff] at hx
            obtain ⟨cs', h1, h2⟩ := hx
            obtain ⟨k1, row, T, fr, k2, k3, rfl⟩ := cells?_some h1 hpos
            rw [(e1 _).1] at k2; rw [(e1 _).2.1] at k3 h2
            exact ⟨fun hk => by rw [(e1 _).2.2 (by simp [hk])] at k1; exact k1, row, T, fr, k2, k3, x, h2⟩
          by_cases hcz : cap = 0
          · refine ⟨.L [], ?_⟩
            simp only [Rel, D.list]
            have : len = 0 := by omega
            subst this
            exact ⟨some a, cap, rfl, by simp, fun h => by omega⟩
          · obtain ⟨hs, row, T, fr, hb, _⟩ := part 0 (by omega)
            have all : ∀ k, k < cap → a.off + k * s.size + s.size ≤ row.size ∧ ∃ x, DataW.trod enc P w base (fun _ => true) held n e (chunk row.toList (a.off + k * s.size) s.size) = some x := by
              intro k hk
              obtain ⟨_, row', T', fr', hb', h1, h2⟩ := part k hk
              rw [hb] at hb'
              simp only [Option.some.injEq, Obj.cells.injEq] at hb'
              rw [← hb'.1] at h1 h2; exact ⟨h1, h2⟩
            have each : ∀ k, k < cap → ∃ d, Rel (whole w) s d (chunk row.toList (a.off + k * s.size) s.size) := fun k hk => by
              obtain ⟨_, x, hx⟩ := all k hk
              exact ih s e _ _ hls hfull.2 hx
            let ds : List D := (List.range len).map fun k => if h : k < cap then Classical.choose (each k h) else .Z
            have hdl : ds.length = len := by simp [ds]
            refine ⟨.L ds, ?_⟩
            simp only [Rel, D.list]
            refine ⟨some a, cap, by rw [hdl], by rw [hdl]; unfold maxLen at hcap; omega, fun _ => ⟨hs rfl, row, T, fr, hb, ?_, fun j hj => ?_⟩⟩
            · have := (all (cap - 1) (by omega)).1
              have e2 : (cap - 1) * s.size + s.size = cap * s.size := by
                rw [← Nat.succ_mul]; congr 1; omega
              omega
            · rw [hdl] at hj
              have e3 : ds.getD j .Z = Classical.choose (each j (by omega)) := by
                have hjc : j < cap := by omega
                simp [ds, hj, hjc]
              rw [e3]
              exact Classical.choose_spec (each j (by omega))
        · cases h
      all_goals first | (cases h; done) | simp_all
    | ref => simp [Lay] at hl
end
end Go.Vm
