/- append. -/
import Derived.Test.YtjcfnooplhoheaaVmH
noncomputable section
namespace Go.Vm
open Go

section
variable {P : Program} {g : Ghost} {loc : Loc} {w0 : Base} {w w' : World} {hp : Hp} {nx : Nat}

/-- An object gives its block to a new one. -/
theorem HeapRel.renew (H : HeapRel w0 hp g loc w) (hn : loc nx = none) {o : Nat} {vo vo' : VO} {b : Nat} {x x' : Place} (ho : lk hp o = some vo) (hlive : vo.live = true) (hb : loc o = some x) (hxb : x.blk = some b)
    (hxb' : x'.blk = some b) (hsz : w'.heap.size = w.heap.size) (hw : ∀ k, k ≠ b → w'.heap[k]? = w.heap[k]?) (hst : w'.os = w.os ∧ w'.output = w.output) (hO : ORel g (loc.upd nx x') w' nx vo') :
    HeapRel w0 ((nx, vo') :: (o, .dead) :: hp) g (loc.upd nx x') w' := by
  refine { obj := ?_, inj := ?_, ghost := ?_, sep := ?_, low := ?_, ext := ?_, size := by rw [hsz]; exact H.size, old := H.old, still := ⟨hst.1.trans H.still.1, hst.2.trans H.still.2⟩ }
  · intro k vk h
    rw [lk_cons] at h
    split at h
    · rename_i e; subst e
      simp only [Option.some.injEq] at h; subst h
      exact hO
    · rw [lk_cons] at h
      split at h
      · simp only [Option.some.injEq] at h; subst h; trivial
      · rename_i hne
        by_cases hl : vk.live = true
        · refine (H.obj k vk h).mono (Ghost.le_refl _) (Loc.le_upd hn) fun b' y z hb' hyb' hy => ?_
          rw [hw b' fun e => hne (by subst e; exact H.inj o k vo vk b' x y ho h hlive hl hb hb' hxb hyb')]
          exact hy
        · cases vk with
          | dead => trivial
          | froz s xs =>
            rcases H.obj k _ h with ⟨e1, e2⟩ | ⟨b2, cap, T, cs, e1, e2⟩
            · exact .inl ⟨Loc.le_upd hn _ _ e1, e2⟩
            · exact .inr ⟨b2, cap, T, cs, Loc.le_upd hn _ _ e1, e2⟩
          | _ => simp [VO.live] at hl
  · have key : ∀ k vk b1 y, lk ((nx, vo') :: (o, .dead) :: hp) k = some vk → vk.live = true → nx ≠ k → (loc.upd nx x') k = some y → y.blk = some b1 → b1 ≠ b ∧ lk hp k = some vk ∧ loc k = some y := by
      intro k vk b1 y h1 l1 hne e1 f1
      rw [lk_cons, if_neg hne, lk_cons] at h1
      rw [Loc.upd_other (fun e => hne e.symm)] at e1
      split at h1
      · simp only [Option.some.injEq] at h1; subst h1; simp [VO.live] at l1
      · rename_i hok
        exact ⟨fun e => hok (by subst e; exact H.inj o k vo vk b1 x y ho h1 hlive l1 hb e1 hxb f1), h1, e1⟩
    intro o1 o2 vo1 vo2 b1 c1 c2 h1 h2 l1 l2 e1 e2 f1 f2
    by_cases a1 : nx = o1 <;> by_cases a2 : nx = o2
    · rw [← a1, ← a2]
    · subst a1
      rw [Loc.upd_same] at e1; simp only [Option.some.injEq] at e1; subst e1
      rw [hxb'] at f1; simp only [Option.some.injEq] at f1
      exact absurd f1.symm (key o2 vo2 b1 c2 h2 l2 a2 e2 f2).1
    · subst a2
      rw [Loc.upd_same] at e2; simp only [Option.some.injEq] at e2; subst e2
      rw [hxb'] at f2; simp only [Option.some.injEq] at f2
      exact absurd f2.symm (key o1 vo1 b1 c1 h1 l1 a1 e1 f1).1
    · obtain ⟨_, k1, k2⟩ := key o1 vo1 b1 c1 h1 l1 a1 e1 f1
      obtain ⟨_, k3, k4⟩ := key o2 vo2 b1 c2 h2 l2 a2 e2 f2
      exact H.inj o1 o2 vo1 vo2 b1 c1 c2 k1 k3 l1 l2 k2 k4 f1 f2
  · intro k y h
    have hne : k ≠ b := by
      intro e; subst e
      rw [H.sep o vo k x ho hlive hb hxb] at h; cases h
    rw [hw k hne]; exact H.ghost k y h
  · intro k vk b' c h1 h2 h3 h4
    by_cases a : nx = k
    · subst a
      rw [Loc.upd_same] at h3; simp only [Option.some.injEq] at h3; subst h3
      rw [hxb'] at h4; simp only [Option.some.injEq] at h4; subst h4
      exact H.sep o vo b x ho hlive hb hxb
    · rw [lk_cons, if_neg a, lk_cons] at h1
      rw [Loc.upd_other (fun e => a e.symm)] at h3
      split at h1
      · simp only [Option.some.injEq] at h1; subst h1; simp [VO.live] at h2
      · exact H.sep k vk b' c h1 h2 h3 h4
  · intro k vk b' c h1 h2 h3 h4
    by_cases a : nx = k
    · subst a
      rw [Loc.upd_same] at h3; simp only [Option.some.injEq] at h3; subst h3
      rw [hxb'] at h4; simp only [Option.some.injEq] at h4; subst h4
      exact H.low o vo b x ho hlive hb hxb
    · rw [lk_cons, if_neg a, lk_cons] at h1
      rw [Loc.upd_other (fun e => a e.symm)] at h3
      split at h1
      · simp only [Option.some.injEq] at h1; subst h1; simp [VO.live] at h2
      · exact H.low k vk b' c h1 h2 h3 h4
  · intro k hk hwr
    have h1 := H.low o vo b x ho hlive hb hxb
    have hne : k ≠ b := by
      rintro rfl
      rcases h1 with h1 | h1
      · rw [hwr] at h1; cases h1
      · omega
    rw [hw k hne]; exact H.ext k hk hwr

theorem growBy_le (need : Nat) : ∀ (r c : Nat), c ≤ 2 * need + 768 → Builtin.growBy need r c ≤ 2 * need + 768
  | 0, c, h => h
  | r + 1, c, h => by
    unfold Builtin.growBy
    split
    · exact h
    · exact growBy_le need r _ (by omega)

theorem nextslicecap_le (need old : Nat) (h : old < need) : Builtin.nextslicecap need old ≤ 2 * need + 768 := by
  unfold Builtin.nextslicecap
  split
  · omega
  · split
    · omega
    · exact growBy_le _ _ _ (by omega)

theorem zeroCells_size (z : Array Value) (n : Nat) : (Builtin.zeroCells z n).size = n * z.size := by simp [Builtin.zeroCells]

/-- The cells of the first elements of a slice. -/
theorem run_firstCells {size n cap b off : Nat} {cs : Array Value} {T : TypeId} {fr : Nat × Nat} (hb : w.heap[b]? = some (.cells cs T fr)) (ho : off + n * size ≤ cs.size) :
    (Builtin.firstCells size n (.slice (some ⟨b, off, none⟩) n cap)).run P w = .ok (chunk cs.toList off (n * size)).toArray w := by
  have hl : (chunk cs.toList off (n * size)).length = n * size := chunk_length _ _ _ (by simpa using ho)
  have hload := run_loadCells_list (P := P) w ⟨b, off, none⟩ (chunk cs.toList off (n * size)) (fun j v hv => by
    rw [addr_add, cell_at hb]
    simp only [chunk, List.getElem?_take, List.getElem?_drop] at hv
    split at hv
    · simpa using hv
    · cases hv)
  rw [hl] at hload
  simpa [Builtin.firstCells] using hload

theorem run_firstCells_nil {size n : Nat} : (Builtin.firstCells size n (.slice none 0 0)).run P w = .ok #[] w := by simp [Builtin.firstCells]

/-- What append asks of its second operand: the cells of a slice whose elements are these data. -/
def Elems (P : Program) (g : Ghost) (w : World) (s : Sh) (ys : List D) (v : Value) : Prop :=
  ∃ a cap, v = .slice a ys.length cap ∧ ∃ cells : Array Value, (∀ w', w'.heap = w.heap → (Builtin.firstCells s.size ys.length v).run P w' = .ok cells w') ∧ cells.size = ys.length * s.size ∧
    ∀ j, j < ys.length → Rel g s (ys.getD j .Z) (chunk cells.toList (j * s.size) s.size)

theorem Elems.dat {s : Sh} {d : D} {v : Value} (hg : ∀ b x, g b = some x → w.heap[b]? = some x) (h : HRel g loc (.dat (.slice s) d) v) : Elems P g w s d.list v := by
  obtain ⟨us, h1, rfl⟩ := HRel.dat_iff.1 h
  simp only [Rel] at h1
  obtain ⟨a, cap, rfl, h1⟩ := h1
  refine ⟨a, cap, rfl, ?_⟩
  cases a with
  | none =>
    simp only at h1
    obtain ⟨h1, rfl⟩ := h1
    refine ⟨#[], fun w' _ => ?_, by simp [h1], fun j hj => by rw [h1] at hj; simp at hj⟩
    simp only [Sh.agg, mkV, List.headD_cons, h1, List.length_nil]
    exact run_firstCells_nil
  | some a =>
    obtain ⟨h3, h1⟩ := h1
    rcases Nat.eq_zero_or_pos cap with hc | hc
    · subst hc
      have hn : d.list = [] := List.length_eq_zero_iff.1 (Nat.le_zero.1 h3)
      refine ⟨#[], fun w' _ => ?_, by simp [hn], fun j hj => by rw [hn] at hj; simp at hj⟩
      have := run_loadCells_list (P := P) w' a [] (fun j v hv => by simp at hv)
      simpa [Sh.agg, mkV, Builtin.firstCells, hn] using this
    obtain ⟨h2, cs, T, fr, h4, h5, h6⟩ := h1 hc
    obtain ⟨b, off, spot⟩ := a
    simp only at h2 h4 h5 h6
    subst h2
    have hle : off + d.list.length * s.size ≤ cs.size := by
      have := Nat.mul_le_mul_right s.size (show d.list.length ≤ cap by omega)
      omega
    refine ⟨(chunk cs.toList off (d.list.length * s.size)).toArray, fun w' hw' => ?_, ?_, ?_⟩
    · simp only [Sh.agg, mkV, List.headD_cons]
      exact run_firstCells (by rw [hw']; exact hg _ _ h4) hle
    · simp [chunk_length _ _ _ (show off + d.list.length * s.size ≤ cs.toList.length by simpa using hle)]
    · intro j hj
      have hj2 : j * s.size + s.size ≤ d.list.length * s.size := by
        calc j * s.size + s.size = (j + 1) * s.size := by rw [Nat.add_mul, Nat.one_mul]
          _ ≤ _ := Nat.mul_le_mul_right _ hj
      rw [chunk_chunk _ _ _ _ _ hj2]
      exact h6 j hj

theorem Elems.own {s : Sh} {o : Nat} {xs : List D} {v : Value} (hO : ORel g loc w o (.grow s xs)) (h : HRel g loc (.own o s) v) : Elems P g w s xs v := by
  obtain ⟨us, h1, rfl⟩ := h
  simp only [HC] at h1
  rcases hO with ⟨k1, rfl⟩ | ⟨b, cap, T, cs, k1, k2, k3, k4, k5⟩
  · rcases h1 with ⟨_, a, rfl⟩ | ⟨b', cap', len', e1, rfl⟩
    · refine ⟨a, 0, rfl, #[], fun w' _ => ?_, by simp, fun j hj => by simp at hj⟩
      cases a with
      | none => exact run_firstCells_nil
      | some a =>
        have := run_loadCells_list (P := P) w' a [] (fun j v hv => by simp at hv)
        simpa [HV.agg, mkV, Builtin.firstCells] using this
    · rw [k1] at e1; cases e1
  · rcases h1 with ⟨e1, _, rfl⟩ | ⟨b', cap', len', e1, rfl⟩
    · rw [k1] at e1; cases e1
    · rw [k1] at e1
      simp only [Option.some.injEq, Place.at.injEq] at e1
      obtain ⟨rfl, rfl, rfl, _⟩ := e1
      have hle : 0 + xs.length * s.size ≤ cs.size := by
        have := Nat.mul_le_mul_right s.size (show xs.length ≤ cap by omega)
        omega
      refine ⟨some ⟨b, 0, none⟩, cap, rfl, (chunk cs.toList 0 (xs.length * s.size)).toArray, fun w' hw' => ?_, ?_, ?_⟩
      · exact run_firstCells (by rw [hw']; exact k2) hle
      · simp [chunk_length _ _ _ (show 0 + xs.length * s.size ≤ cs.toList.length by simpa using hle)]
      · intro j hj
        have hj2 : j * s.size + s.size ≤ xs.length * s.size := by
          calc j * s.size + s.size = (j + 1) * s.size := by rw [Nat.add_mul, Nat.one_mul]
            _ ≤ _ := Nat.mul_le_mul_right _ hj
        rw [chunk_chunk _ _ _ _ _ hj2, Nat.zero_add]
        exact k5 j hj

theorem Elems.nil {s : Sh} : Elems P g w s [] (.slice none 0 0) := ⟨none, 0, rfl, #[], fun _ _ => run_firstCells_nil, by simp, fun j hj => by simp at hj⟩

theorem rel_append {s : Sh} {xs ys : List D} {us vs rest : List Value} (hx : us.length = xs.length * s.size) (hy : vs.length = ys.length * s.size)
    (h1 : ∀ j, j < xs.length → Rel g s (xs.getD j .Z) (chunk us (j * s.size) s.size)) (h2 : ∀ j, j < ys.length → Rel g s (ys.getD j .Z) (chunk vs (j * s.size) s.size)) :
    ∀ j, j < (xs ++ ys).length → Rel g s ((xs ++ ys).getD j .Z) (chunk (us ++ vs ++ rest) (j * s.size) s.size) := by
  intro j hj
  simp only [List.length_append] at hj
  by_cases hjx : j < xs.length
  · have hb : j * s.size + s.size ≤ us.length := by
      rw [hx]
      calc j * s.size + s.size = (j + 1) * s.size := by rw [Nat.add_mul, Nat.one_mul]
        _ ≤ _ := Nat.mul_le_mul_right _ hjx
    have e1 : (xs ++ ys).getD j .Z = xs.getD j .Z := by simp [List.getD_eq_getElem?_getD, List.getElem?_append_left hjx]
    have e2 : chunk (us ++ vs ++ rest) (j * s.size) s.size = chunk us (j * s.size) s.size := by
      rw [chunk, List.append_assoc, List.drop_append_of_le_length (by omega), List.take_append_of_le_length (by simp; omega), chunk]
    rw [e1, e2]; exact h1 j hjx
  · obtain ⟨k, rfl⟩ : ∃ k, j = xs.length + k := ⟨j - xs.length, by omega⟩
    have hk : k < ys.length := by omega
    have hb : k * s.size + s.size ≤ vs.length := by
      rw [hy]
      calc k * s.size + s.size = (k + 1) * s.size := by rw [Nat.add_mul, Nat.one_mul]
        _ ≤ _ := Nat.mul_le_mul_right _ hk
    have e1 : (xs ++ ys).getD (xs.length + k) .Z = ys.getD k .Z := by
      simp [List.getD_eq_getElem?_getD, List.getElem?_append_right]
    have e2 : chunk (us ++ vs ++ rest) ((xs.length + k) * s.size) s.size = chunk vs (k * s.size) s.size := by
      rw [chunk, List.append_assoc, Nat.add_mul, ← hx, List.drop_length_add_append, List.drop_append_of_le_length (by omega), List.take_append_of_le_length (by simp; omega), chunk]
    rw [e1, e2]; exact h2 k hk

/-- append run, from a slice that owns what lies behind it. -/
theorem append_run {s : Sh} {e t tx : TypeId} {xs ys : List D} {o : Nat} {v y : Value} {tys : Array TypeId} {ty : TypeId} (hl : Lay P (.slice s) t) (hlx : P.underlying tx = some (.slice e))
    (hdat : s.data = true) (ht0 : tys[0]? = some t) (ht1 : tys[1]? = some tx)
    (H : HeapRel w0 hp g loc w) (hn : loc nx = none) (ho : lk hp o = some (.grow s xs)) (hv : HRel g loc (.own o s) v) (hy : Elems P g w s ys y) (hlen : xs.length + ys.length ≤ 1073741824) :
    ∃ v' w' x', (Builtin.append_ tys ty #[v, y]).run P w = .ok v' w' ∧ HeapRel w0 ((nx, .grow s (xs ++ ys)) :: (o, .dead) :: hp) g (loc.upd nx x') w' ∧ HRel g (loc.upd nx x') (.own nx s) v' := by
  simp only [Lay] at hl
  obtain ⟨_, e', hu, hle⟩ := hl
  obtain ⟨ie, hie, hisz, hiz, hib⟩ := hle.ty
  obtain ⟨yb, ycap, rfl, ycells, hyrun, hysz, hyrel⟩ := hy
  have hO := H.obj o _ ho
  have hxE : Elems P g w s xs v := Elems.own hO hv
  have hzc : (mkV s.agg (zcells s)).cells.size = s.size := by
    have hz := Rel.zero (fun _ => none) s hdat
    have h1 : HRel (fun _ => none) (fun _ => none) (.dat s (D0 s)) (mkV s.agg (zcells s)) := HRel.dat_iff.2 ⟨_, hz, rfl⟩
    have h2 := HRel.cells h1
    simp only [HC] at h2
    simpa using h2.length
  -- where it has to grow
  have grow : ∀ sCap base, v = .slice base xs.length sCap → sCap < xs.length + ys.length → ∃ v' w' x', (Builtin.append_ tys ty #[v, .slice yb ys.length ycap]).run P w = .ok v' w' ∧
      HeapRel w0 ((nx, .grow s (xs ++ ys)) :: (o, .dead) :: hp) g (loc.upd nx x') w' ∧ HRel g (loc.upd nx x') (.own nx s) v' := by
    intro sCap base hvb hneed
    obtain ⟨xb, xcap, hv2, xcells, hxrun, hxsz, hxrel⟩ := hxE
    have hcap : Builtin.nextslicecap (xs.length + ys.length) sCap * ie.bytes ≤ 281474976710656 := by
      have h1 := nextslicecap_le (xs.length + ys.length) sCap hneed
      have h2 : Builtin.nextslicecap (xs.length + ys.length) sCap * ie.bytes ≤ (2 * 1073741824 + 768) * 65536 := Nat.mul_le_mul (by omega) hib
      omega
    have hmax : ¬ (((xs.length + ys.length : Nat) : Int) > IntKind.i64.max ∧ (False ∨ ie.bytes = 0)) := by
      have : IntKind.i64.max = 9223372036854775807 := by decide
      omega
    generalize hnc : Question.cut (.appendCap (xs.length + ys.length) sCap e') (w.tape w.drawn (.appendCap (xs.length + ys.length) sCap e')) = newCap
    have hncge : xs.length + ys.length ≤ newCap := by rw [← hnc]; simp only [Question.cut]; omega
    have hrun : (Builtin.append_ tys ty #[v, .slice yb ys.length ycap]).run P w = .ok (.slice (some ⟨w.heap.size, 0, none⟩) (xs.length + ys.length) newCap)
        (w.drew.alloc (.cells (xcells ++ ycells ++ Builtin.zeroCells (mkV s.agg (zcells s)).cells (newCap - (xs.length + ys.length))) e')) := by
      have a1 : (Builtin.firstCells s.size xs.length v).run P w.drew = .ok xcells w.drew := hxrun w.drew rfl
      have a2 : (Builtin.firstCells s.size ys.length (.slice yb ys.length ycap)).run P w.drew = .ok ycells w.drew := hyrun w.drew rfl
      have hzr : ∀ w, (zeroValue e').run P w = .ok (mkV s.agg (zcells s)) w := run_zero ⟨ie, hie, hiz⟩
      have hszr : ∀ w, (sizeOf e').run P w = .ok s.size w := run_size hle.plain
      have hti : ∀ w, (typeInfo e').run P w = .ok ie w := fun w => by simp [typeInfo, hie]
      rw [hvb] at a1 ⊢
      unfold Builtin.append_
      simp only [ht0, ht1, List.getElem?_toArray, List.getElem?_cons_zero, List.getElem?_cons_succ, Sem.run_bind, run_underlying hu, run_underlying hlx, Result.andThen_ok, Sem.run_pure, hszr,
        Bool.false_eq_true, if_false, Builtin.lenOf]
      rw [if_neg (by omega)]
      simp only [Sem.run_bind, hti, Result.andThen_ok]
      rw [if_neg (by simpa using hmax)]
      simp only [Sem.run_bind, hti, Result.andThen_ok]
      rw [if_neg (by omega)]
      simp only [Sem.run_bind, Sem.run_pure, Result.andThen_ok, run_choose, Question.forced, Bool.false_eq_true, if_false, hnc, run_askRoom, hti]
      have dr : ({ w with drawn := w.drawn + 1 } : World) = w.drew := rfl
      rw [dr]
      simp only [a1, Result.andThen_ok, Bool.not_false, if_true, a2, hzr, newRow, Sem.run_bind, run_newObj, Sem.run_pure]
      rfl
    refine ⟨_, _, .at w.heap.size newCap (xs ++ ys).length (.arr (xs ++ ys).length s), hrun, ?_, ?_⟩
    · have Hk := (H.kill o).drew
      have hsz : (Builtin.zeroCells (mkV s.agg (zcells s)).cells (newCap - (xs.length + ys.length))).size = (newCap - (xs.length + ys.length)) * s.size := by rw [zeroCells_size, hzc]
      refine HeapRel.new Hk hn (ExtAll.alloc _ _) _ _ (by intro b hb; simp only [Place.blk, Option.some.injEq] at hb; subst hb; exact Nat.le_refl _) ?_
      right
      refine ⟨w.heap.size, newCap, e', _, Loc.upd_same, heap_alloc_new _ _, ?_, by simp only [List.length_append]; omega, ?_⟩
      · simp only [Array.size_append, hxsz, hysz, hsz]
        rw [← Nat.add_mul, ← Nat.add_mul]; congr 1; omega
      · simp only [Array.toList_append]
        exact rel_append (by simpa using hxsz) (by simpa using hysz) hxrel hyrel
    · refine ⟨[.slice (some ⟨w.heap.size, 0, none⟩) (xs.length + ys.length) newCap], ?_, rfl⟩
      simp only [HC]
      exact .inr ⟨_, _, _, Loc.upd_same, by simp⟩
  rcases hO with ⟨k1, rfl⟩ | ⟨b, cap, T, cs, k1, k2, k3, k4, k5⟩
  · -- nil
    obtain ⟨us, h1, rfl⟩ := hv
    simp only [HC] at h1
    rcases h1 with ⟨_, a, rfl⟩ | ⟨b', cap', len', e1, rfl⟩
    · by_cases hn0 : ys.length = 0
      · have hys : ys = [] := List.length_eq_zero_iff.1 hn0
        subst hys
        refine ⟨.slice a 0 0, w, .nil, ?_, ?_, ?_⟩
        · have hszr : ∀ w, (sizeOf e').run P w = .ok s.size w := run_size hle.plain
          have a2 : (Builtin.firstCells s.size 0 (.slice yb 0 ycap)).run P w = .ok ycells w := hyrun w rfl
          have hy0 : ycells.toList = [] := List.length_eq_zero_iff.1 (by simpa using hysz)
          unfold Builtin.append_
          cases a with
          | none => simp [ht0, ht1, run_underlying hu, run_underlying hlx, hszr, Builtin.lenOf, mkV, HV.agg, a2]
          | some a => simp [ht0, ht1, run_underlying hu, run_underlying hlx, hszr, Builtin.lenOf, mkV, HV.agg, a2, hy0, storeCells]
        · have := (H.kill o).new hn (ExtAll.refl w) .nil (.grow s []) (by intro b hb; simp [Place.blk] at hb) (.inl ⟨Loc.upd_same, rfl⟩)
          simpa using this
        · exact ⟨_, by simp only [HC]; exact .inl ⟨Loc.upd_same, a, rfl⟩, rfl⟩
      · exact grow 0 a rfl (by simp; omega)
    · rw [k1] at e1; cases e1
  · have hv0 := hv
    obtain ⟨us, h1, rfl⟩ := hv
    simp only [HC] at h1
    rcases h1 with ⟨e1, _, rfl⟩ | ⟨b', cap', len', e1, rfl⟩
    · rw [k1] at e1; cases e1
    · rw [k1] at e1
      simp only [Option.some.injEq, Place.at.injEq] at e1
      obtain ⟨rfl, rfl, rfl, _⟩ := e1
      by_cases hneed : xs.length + ys.length ≤ cap
      · have hle1 : xs.length * s.size + ys.length * s.size ≤ cs.size := by
          rw [k3, ← Nat.add_mul]; exact Nat.mul_le_mul_right _ hneed
        have hone : ∀ x ∈ ycells.toList, x.oneCell' = true := by
          intro x hx
          obtain ⟨i, hi, rfl⟩ := List.getElem_of_mem hx
          simp only [Array.length_toList] at hi
          rw [hysz] at hi
          by_cases hs : s.size = 0
          · rw [hs] at hi; omega
          · have hpos : 0 < s.size := by omega
            have hj : i / s.size < ys.length := (Nat.div_lt_iff_lt_mul hpos).2 hi
            refine Rel.one (hyrel (i / s.size) hj) _ ?_
            have e : i = i / s.size * s.size + i % s.size := by rw [Nat.mul_comm]; exact (Nat.div_add_mod i s.size).symm
            have hm : i % s.size < s.size := Nat.mod_lt _ hpos
            have : (chunk ycells.toList (i / s.size * s.size) s.size)[i % s.size]? = ycells.toList[i]? := by
              simp only [chunk, List.getElem?_take, hm, if_true, List.getElem?_drop]
              rw [← e]
            exact List.mem_of_getElem? (by rw [this, List.getElem?_eq_getElem])
        have hst := run_storeCells_at P b (xs.length * s.size) T ycells.toList 0 cs w k2 (by simp [hysz]; omega) hone
        have hrun : (Builtin.append_ tys ty #[.slice (some ⟨b, 0, none⟩) xs.length cap, .slice yb ys.length ycap]).run P w =
            .ok (.slice (some ⟨b, 0, none⟩) (xs.length + ys.length) cap) (w.setRow b (splice cs.toList (xs.length * s.size) ycells.toList).toArray) := by
          have hszr : ∀ w, (sizeOf e').run P w = .ok s.size w := run_size hle.plain
          have a2 : (Builtin.firstCells s.size ys.length (.slice yb ys.length ycap)).run P w = .ok ycells w := hyrun w rfl
          unfold Builtin.append_
          simp only [ht0, ht1, List.getElem?_toArray, List.getElem?_cons_zero, List.getElem?_cons_succ, Sem.run_bind, run_underlying hu, run_underlying hlx, Result.andThen_ok, Sem.run_pure, hszr,
            Bool.false_eq_true, if_false, Builtin.lenOf]
          rw [if_pos hneed]
          simp only [Sem.run_bind, Bool.not_false, if_true, a2, Result.andThen_ok, addr_add, Nat.zero_add, hst, Sem.run_pure, splice, Nat.add_zero]
        refine ⟨_, _, .at b cap (xs ++ ys).length (.arr (xs ++ ys).length s), hrun, ?_, ?_⟩
        · refine HeapRel.renew H hn ho rfl k1 rfl rfl (setRow_size _ _ _) (fun k hk => setRow_other _ _ _ _ hk) ⟨rfl, rfl⟩ ?_
          right
          have hspl : (splice cs.toList (xs.length * s.size) ycells.toList).length = cs.size := by
            rw [splice_length _ _ _ (by simp [hysz]; omega)]; simp
          refine ⟨b, cap, T, _, Loc.upd_same, setRow_same _ k2, by simpa [hspl] using k3, by simp only [List.length_append]; omega, ?_⟩
          simp only [splice]
          refine rel_append (by simp; omega) (by simpa using hysz) ?_ hyrel
          intro j hj
          have hb : j * s.size + s.size ≤ xs.length * s.size := by
            calc j * s.size + s.size = (j + 1) * s.size := by rw [Nat.add_mul, Nat.one_mul]
              _ ≤ _ := Nat.mul_le_mul_right _ hj
          have := k5 j hj
          rw [chunk, List.drop_take, List.take_take]
          have e3 : min s.size (xs.length * s.size - j * s.size) = s.size := by omega
          rw [e3]; exact this
        · refine ⟨[.slice (some ⟨b, 0, none⟩) (xs.length + ys.length) cap], ?_, rfl⟩
          simp only [HC]
          exact .inr ⟨_, _, _, Loc.upd_same, by simp⟩
      · exact grow cap (some ⟨b, 0, none⟩) rfl (by omega)
end
end Go.Vm
