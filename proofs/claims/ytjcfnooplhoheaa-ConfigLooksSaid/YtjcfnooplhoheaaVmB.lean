/- The evaluator's values and objects, what they mean in a world, and how the meaning is kept. -/
import Derived.Test.YtjcfnooplhoheaaVmA
noncomputable section
namespace Go.Vm
open Go

/-- How a loop over a function stands. -/
inductive LSt where
  | ready | busy | done (x : Exit)

def jumpOf : Exit → Option Code
  | .exit id => some (.exit id)
  | .ret => some .ret
  | .goto l => some (.goto l)
  | _ => none

def LSt.at (r : Go.Loop) : LSt → Go.Loop
  | .ready => { r with state := .ready, pending := none }
  | .busy => { r with state := .busy, pending := none }
  | .done x => { r with state := .done, pending := jumpOf x }

inductive HV where
  | dat (s : Sh) (d : D)
  | ptr (o : Nat) (r : Sh) (p : List PS) (s : Sh)
  | own (o : Nat) (s : Sh)
  | gptr (s : Sh) (d : D)
  | fn (f : Nat) (caps : List HV)
  | st (ss : List Sh) (fs : List HV)
  | tup (vs : List HV)
  | cst (v : Value)
  | yld (o : Nat)
  | mp (o : Nat) (ks vs : Sh)
  | mit (o : Nat)
  | und
  deriving Inhabited

inductive VO where
  | box (s : Sh) (v : HV)
  | grow (s : Sh) (xs : List D)
  | loop (st : LSt)
  | map (ks vs : Sh) (es : List (D × D))
  | iter (om since last : Nat) (seen : List Nat)
  | vec (fs : List HV)
  | froz (s : Sh) (xs : List D)
  | dead

/-- Where an object lies: a block, with its capacity as a slice; or nowhere (the nil slice). -/
inductive Place where
  | nil | at (b cap len : Nat) (r : Sh) | loop (b : Nat) (r : Go.Loop) | obj (b : Nat)

def Place.blk : Place → Option Nat
  | .nil => none
  | .at b _ _ _ => some b
  | .loop b _ => some b
  | .obj b => some b

abbrev Loc := Nat → Option Place

def HV.agg : HV → Bool
  | .dat s _ => s.agg
  | .st _ _ => true
  | _ => false

def mkV (agg : Bool) (vs : List Value) : Value := match agg with
  | true => .agg vs.toArray
  | false => vs.headD undef

/-- The shape and the offset behind a path. -/
def Sh.navs : Sh → List PS → Option (Sh × Nat)
  | s, [] => some (s, 0)
  | s, p :: ps => match s.step p with
    | some (s', o) => match Sh.navs s' ps with
      | some (s'', o') => some (s'', o + o')
      | none => none
    | none => none

/-- All indices of a path lie within. -/
def Sh.inPath : Sh → List PS → Prop
  | _, [] => True
  | s, p :: ps => s.inStep p ∧ ∀ s' o, s.step p = some (s', o) → Sh.inPath s' ps

mutual
def HC (g : Ghost) (loc : Loc) : HV → List Value → Prop
  | .dat s d, vs => Rel g s d vs
  | .ptr o r p s, vs => ∃ b cap len off, loc o = some (.at b cap len r) ∧ r.navs p = some (s, off) ∧ r.inPath p ∧ vs = [.pointer (some ⟨b, off, none⟩)]
  | .own o s, vs => (loc o = some .nil ∧ ∃ a, vs = [.slice a 0 0]) ∨ ∃ b cap len, loc o = some (.at b cap len (.arr len s)) ∧ vs = [.slice (some ⟨b, 0, none⟩) len cap]
  | .gptr s d, vs => ∃ b off cs T fr, g b = some (.cells cs T fr) ∧ off + s.size ≤ cs.size ∧ Rel g s d (chunk cs.toList off s.size) ∧ vs = [.pointer (some ⟨b, off, none⟩)]
  | .fn f caps, vs => ∃ cs, HVs g loc caps cs ∧ vs = [.func (.func f) #[] cs.toArray]
  | .st ss fs, vs => HCs g loc ss fs vs
  | .cst v, vs => vs = [v] ∧ v.oneCell' = true
  | .yld o, vs => ∃ b r, loc o = some (.loop b r) ∧ vs = [.func (.yield b) #[] #[]]
  | .mp o _ _, vs => ∃ b, loc o = some (.obj b) ∧ vs = [.map (some b)]
  | .mit o, vs => ∃ b, loc o = some (.obj b) ∧ vs = [.pointer (some ⟨b, 0, none⟩)]
  | .tup _, _ => False
  | .und, _ => False
def HCs (g : Ghost) (loc : Loc) : List Sh → List HV → List Value → Prop
  | [], [], vs => vs = []
  | s :: ss, f :: fs, vs => s.size ≤ vs.length ∧ HC g loc f (vs.take s.size) ∧ HCs g loc ss fs (vs.drop s.size)
  | _, _, _ => False
def HVs (g : Ghost) (loc : Loc) : List HV → List Value → Prop
  | [], [] => True
  | h :: hs, v :: vs => (∃ us, HC g loc h us ∧ v = mkV h.agg us) ∧ HVs g loc hs vs
  | _, _ => False
end

def HRel (g : Ghost) (loc : Loc) : HV → Value → Prop
  | .und, _ => True
  | .tup l, v => ∃ vs, HVs g loc l vs ∧ v = .tuple vs.toArray
  | h, v => ∃ us, HC g loc h us ∧ v = mkV h.agg us

def Loc.le (l l' : Loc) : Prop := ∀ o x, l o = some x → l' o = some x
theorem Loc.le_refl (l : Loc) : l.le l := fun _ _ h => h
theorem Loc.le_trans {a b c : Loc} (h : a.le b) (k : b.le c) : a.le c := fun x y z => k x y (h x y z)

section
variable {g g' : Ghost} {loc loc' : Loc}

mutual
theorem HC.monoC (hg : g.leC g') (hl : loc.le loc') : ∀ {h : HV} {vs : List Value}, HC g loc h vs → HC g' loc' h vs
  | .dat s d, vs, h => by simp only [HC] at h ⊢; exact h.monoC hg
  | .ptr o r p s, vs, h => by
    simp only [HC] at h ⊢
    obtain ⟨b, cap, len, off, h1, h2⟩ := h
    exact ⟨b, cap, len, off, hl _ _ h1, h2⟩
  | .own o s, vs, h => by
    simp only [HC] at h ⊢
    rcases h with ⟨h1, h2⟩ | ⟨b, cap, len, h1, h2⟩
    · exact .inl ⟨hl _ _ h1, h2⟩
    · exact .inr ⟨b, cap, len, hl _ _ h1, h2⟩
  | .gptr s d, vs, h => by
    simp only [HC] at h ⊢
    obtain ⟨b, off, cs, T, fr, h1, h2, h3, h4⟩ := h
    exact ⟨b, off, cs, T, fr, hg _ _ _ _ h1, h2, h3.monoC hg, h4⟩
  | .fn f caps, vs, h => by
    simp only [HC] at h ⊢
    obtain ⟨cs, h1, h2⟩ := h
    exact ⟨cs, HVs.monoC hg hl h1, h2⟩
  | .st ss fs, vs, h => by simp only [HC] at h ⊢; exact HCs.monoC hg hl h
  | .cst v, vs, h => by simp only [HC] at h ⊢; exact h
  | .yld o, vs, h => by
    simp only [HC] at h ⊢
    obtain ⟨b, r, h1, h2⟩ := h
    exact ⟨b, r, hl _ _ h1, h2⟩
  | .mp o _ _, vs, h => by
    simp only [HC] at h ⊢
    obtain ⟨b, h1, h2⟩ := h
    exact ⟨b, hl _ _ h1, h2⟩
  | .mit o, vs, h => by
    simp only [HC] at h ⊢
    obtain ⟨b, h1, h2⟩ := h
    exact ⟨b, hl _ _ h1, h2⟩
  | .tup l, vs, h => by simp only [HC] at h
  | .und, vs, h => by simp only [HC] at h
theorem HCs.monoC (hg : g.leC g') (hl : loc.le loc') : ∀ {ss : List Sh} {fs : List HV} {vs : List Value}, HCs g loc ss fs vs → HCs g' loc' ss fs vs
  | [], [], _, h => by simp only [HCs] at h ⊢; exact h
  | s :: ss, f :: fs, vs, h => by
    simp only [HCs] at h ⊢
    exact ⟨h.1, HC.monoC hg hl h.2.1, HCs.monoC hg hl h.2.2⟩
  | [], _ :: _, _, h => by simp only [HCs] at h
  | _ :: _, [], _, h => by simp only [HCs] at h
theorem HVs.monoC (hg : g.leC g') (hl : loc.le loc') : ∀ {hs : List HV} {vs : List Value}, HVs g loc hs vs → HVs g' loc' hs vs
  | [], [], _ => by simp only [HVs]
  | h :: hs, v :: vs, k => by
    simp only [HVs] at k ⊢
    obtain ⟨⟨us, h1, h2⟩, h3⟩ := k
    exact ⟨⟨us, HC.monoC hg hl h1, h2⟩, HVs.monoC hg hl h3⟩
  | [], _ :: _, h => by simp only [HVs] at h
  | _ :: _, [], h => by simp only [HVs] at h
end

theorem HRel.monoC (hg : g.leC g') (hl : loc.le loc') {h : HV} {v : Value} (k : HRel g loc h v) : HRel g' loc' h v := by
  cases h <;> simp only [HRel] at k ⊢
  case tup l => obtain ⟨vs, h1, h2⟩ := k; exact ⟨vs, h1.monoC hg hl, h2⟩
  all_goals (obtain ⟨us, h1, h2⟩ := k; exact ⟨us, h1.monoC hg hl, h2⟩)

theorem HC.mono (hg : g.le g') (hl : loc.le loc') {h : HV} {vs : List Value} (k : HC g loc h vs) : HC g' loc' h vs := k.monoC hg.c hl
theorem HCs.mono (hg : g.le g') (hl : loc.le loc') {ss : List Sh} {fs : List HV} {vs : List Value} (k : HCs g loc ss fs vs) : HCs g' loc' ss fs vs := k.monoC hg.c hl
theorem HVs.mono (hg : g.le g') (hl : loc.le loc') {hs : List HV} {vs : List Value} (k : HVs g loc hs vs) : HVs g' loc' hs vs := k.monoC hg.c hl
theorem HRel.mono (hg : g.le g') (hl : loc.le loc') {h : HV} {v : Value} (k : HRel g loc h v) : HRel g' loc' h v := k.monoC hg.c hl

theorem HRel.dat_iff {s : Sh} {d : D} {v : Value} : HRel g loc (.dat s d) v ↔ ∃ us, Rel g s d us ∧ v = mkV s.agg us := by
  simp only [HRel, HC, HV.agg]

/-! ### Scalars -/
theorem HRel.int {k : IntKind} {d : D} {v : Value} (h : HRel g loc (.dat (.int k) d) v) : v = .int k d.int ∧ k.min ≤ d.int ∧ d.int ≤ k.max := by
  obtain ⟨us, h1, rfl⟩ := HRel.dat_iff.1 h
  simp only [Rel] at h1
  obtain ⟨rfl, h2⟩ := h1
  exact ⟨rfl, h2⟩
theorem HRel.int_mk {k : IntKind} {n : Int} (h1 : k.min ≤ n) (h2 : n ≤ k.max) : HRel g loc (.dat (.int k) (.I n)) (.int k n) :=
  HRel.dat_iff.2 ⟨[.int k n], by simp only [Rel]; exact ⟨rfl, h1, h2⟩, rfl⟩
theorem HRel.bool {d : D} {v : Value} (h : HRel g loc (.dat .bool d) v) : v = .bool d.bool := by
  obtain ⟨us, h1, rfl⟩ := HRel.dat_iff.1 h
  simp only [Rel] at h1
  subst h1; rfl
theorem HRel.bool_mk {b : Bool} : HRel g loc (.dat .bool (.B b)) (.bool b) :=
  HRel.dat_iff.2 ⟨[.bool b], by simp only [Rel, D.bool], rfl⟩

/-- The cells of a value. -/
theorem HRel.cells {h : HV} {v : Value} (hh : ∃ us, HC g loc h us ∧ v = mkV h.agg us) : HC g loc h v.cells.toList := by
  obtain ⟨us, h1, rfl⟩ := hh
  cases h with
  | dat s d =>
    cases s <;> simp only [HC, Rel] at h1 <;> simp only [HV.agg, Sh.agg, mkV, Value.cells, HC, Rel] <;> try exact h1
    · obtain ⟨rfl, k1⟩ := h1; exact ⟨rfl, k1⟩
    · subst h1; rfl
    · subst h1; rfl
    · obtain ⟨a, cap, rfl, k1⟩ := h1; exact ⟨a, cap, rfl, k1⟩
  | ptr o r p s =>
    simp only [HC] at h1 ⊢
    obtain ⟨b, cap, len, off, k1, k2, k3, rfl⟩ := h1
    exact ⟨b, cap, len, off, k1, k2, k3, rfl⟩
  | own o s =>
    simp only [HC] at h1 ⊢
    rcases h1 with ⟨k1, a, rfl⟩ | ⟨b, cap, len, k1, rfl⟩
    · exact .inl ⟨k1, a, rfl⟩
    · exact .inr ⟨b, cap, len, k1, rfl⟩
  | yld o =>
    simp only [HC] at h1 ⊢
    obtain ⟨b, r, k1, rfl⟩ := h1
    exact ⟨b, r, k1, rfl⟩
  | mp o ks vs =>
    simp only [HC] at h1 ⊢
    obtain ⟨b, k1, rfl⟩ := h1
    exact ⟨b, k1, rfl⟩
  | mit o =>
    simp only [HC] at h1 ⊢
    obtain ⟨b, k1, rfl⟩ := h1
    exact ⟨b, k1, rfl⟩
  | gptr s d =>
    simp only [HC] at h1 ⊢
    obtain ⟨b, off, cs, T, fr, k1, k2, k3, rfl⟩ := h1
    exact ⟨b, off, cs, T, fr, k1, k2, k3, rfl⟩
  | fn f caps =>
    simp only [HC] at h1 ⊢
    obtain ⟨cs, k1, rfl⟩ := h1
    exact ⟨cs, k1, rfl⟩
  | st ss fs => simpa only [HV.agg, mkV, Value.cells] using h1
  | cst v =>
    simp only [HC] at h1 ⊢
    obtain ⟨rfl, h⟩ := h1
    refine ⟨?_, h⟩
    simp only [HV.agg, mkV, List.headD_cons]
    cases v <;> simp_all [Value.cells, Value.oneCell']
  | tup l => simp only [HC] at h1
  | und => simp only [HC] at h1
end

mutual
/-- The value is one of this shape. -/
def fits : Sh → HV → Bool
  | s, .dat s' _ => s'.beq s
  | .struct ss, .st ss' fs => Sh.beqs ss' ss && fitss ss fs
  | _, .st _ _ => false
  | _, .tup _ => false
  | _, .und => false
  | s, _ => Nat.beq s.size 1 && !s.agg
def fitss : List Sh → List HV → Bool
  | [], [] => true
  | s :: ss, f :: fs => fits s f && fitss ss fs
  | _, _ => false
end

/-! ### Objects -/
def VO.live : VO → Bool
  | .dead => false
  | .froz _ _ => false
  | _ => true

/-- The entries of a map. -/
def EntR (g : Ghost) (ks vs : Sh) : Nat → List (D × D) → List MapEntry → Prop
  | _, [], [] => True
  | i, (k, v) :: es, e :: arr => e.born = i ∧ (∃ us, Rel g ks k us ∧ e.key = mkV ks.agg us) ∧ (∃ us, Rel g vs v us ∧ e.val = mkV vs.agg us) ∧ EntR g ks vs (i + 1) es arr
  | _, _, _ => False
theorem EntR.monoC {g g' : Ghost} (hg : g.leC g') {ks vs : Sh} : ∀ {i : Nat} {es : List (D × D)} {arr : List MapEntry}, EntR g ks vs i es arr → EntR g' ks vs i es arr
  | _, [], [], _ => by simp only [EntR]
  | _, (k, v) :: es, e :: arr, h => by
    simp only [EntR] at h ⊢
    obtain ⟨h1, ⟨us, h2, h3⟩, ⟨us', h4, h5⟩, h6⟩ := h
    exact ⟨h1, ⟨us, h2.monoC hg, h3⟩, ⟨us', h4.monoC hg, h5⟩, h6.monoC hg⟩
  | _, [], _ :: _, h => by simp [EntR] at h
  | _, _ :: _, [], h => by simp [EntR] at h

def ORel (g : Ghost) (loc : Loc) (w : World) (o : Nat) : VO → Prop
  | .box s v => ∃ b cap len T vs, loc o = some (.at b cap len s) ∧ w.heap[b]? = some (.cells vs T (0, 0)) ∧ vs.size = s.size ∧ fits s v = true ∧ HC g loc v vs.toList
  | .grow s xs => (loc o = some .nil ∧ xs = []) ∨ ∃ b cap T cs, loc o = some (.at b cap xs.length (.arr xs.length s)) ∧ w.heap[b]? = some (.cells cs T (0, 0)) ∧ cs.size = cap * s.size ∧
      xs.length ≤ min cap 9223372036854775807 ∧ ∀ j, j < xs.length → Rel g s (xs.getD j .Z) (chunk cs.toList (j * s.size) s.size)
  | .loop st => ∃ b r, loc o = some (.loop b r) ∧ w.heap[b]? = some (.loop (st.at r))
  | .map ks vs es => ∃ b arr, loc o = some (.obj b) ∧ w.heap[b]? = some (.map arr es.length) ∧ EntR g ks vs 0 es arr.toList
  | .iter om since last seen => ∃ b bm, loc o = some (.obj b) ∧ loc om = some (.obj bm) ∧ w.heap[b]? = some (.mapIter (some bm) since seen.toArray last) ∧ (seen ≠ [] → 1 ≤ last)
  | .vec fs => ∃ b T vs, loc o = some (.at b fs.length fs.length (.arr fs.length .ref)) ∧ w.heap[b]? = some (.cells vs T (0, 0)) ∧ HCs g loc (List.replicate fs.length .ref) fs vs.toList
  | .froz s xs => (loc o = some .nil ∧ xs = []) ∨ ∃ b cap T cs, loc o = some (.at b cap xs.length (.arr xs.length s)) ∧ g b = some (.cells cs T (0, 0)) ∧ cs.size = cap * s.size ∧
      xs.length ≤ min cap 9223372036854775807 ∧ ∀ j, j < xs.length → Rel g s (xs.getD j .Z) (chunk cs.toList (j * s.size) s.size)
  | .dead => True

def lk {α : Type} (l : List (Nat × α)) (n : Nat) : Option α :=
  @List.rec (Nat × α) (fun _ => Option α) none (fun p _ ih => match p with
    | (k, v) => match Nat.beq k n with
      | true => some v
      | false => ih) l

theorem lk_same {α : Type} (k : Nat) (v : α) (l : List (Nat × α)) : lk ((k, v) :: l) k = some v := by simp [lk]
theorem lk_other {α : Type} {k n : Nat} (h : k ≠ n) (v : α) (l : List (Nat × α)) : lk ((k, v) :: l) n = lk l n := by
  have : Nat.beq k n = false := Bool.eq_false_iff.2 fun hh => h (Nat.eq_of_beq_eq_true hh)
  simp [lk, this]
theorem lk_cons {α : Type} (k n : Nat) (v : α) (l : List (Nat × α)) : lk ((k, v) :: l) n = if k = n then some v else lk l n := by
  by_cases h : k = n
  · subst h; rw [lk_same]; simp
  · rw [lk_other h]; simp [h]

abbrev Hp := List (Nat × VO)

/-- Where an account begins: the blocks that lie there, and those that one may speak of. -/
structure Base where
  heap : Array Obj
  gh : Ghost
  os : Os
  output : Array (Nat × ByteArray)
  /-- Blocks that lie there and may be written all the same. -/
  wr : Nat → Bool

/-- What the objects say of a world that grew out of the world w0. -/
structure HeapRel (w0 : Base) (hp : Hp) (g : Ghost) (loc : Loc) (w : World) : Prop where
  obj : ∀ o vo, lk hp o = some vo → ORel g loc w o vo
  inj : ∀ o o' vo vo' b x x', lk hp o = some vo → lk hp o' = some vo' → vo.live = true → vo'.live = true → loc o = some x → loc o' = some x' → x.blk = some b → x'.blk = some b → o = o'
  ghost : ∀ b x, g b = some x → w.heap[b]? = some x
  sep : ∀ o vo b x, lk hp o = some vo → vo.live = true → loc o = some x → x.blk = some b → g b = none
  low : ∀ o vo b x, lk hp o = some vo → vo.live = true → loc o = some x → x.blk = some b → w0.wr b = true ∨ w0.heap.size ≤ b
  ext : ∀ b, b < w0.heap.size → w0.wr b = false → w.heap[b]? = w0.heap[b]?
  size : w0.heap.size ≤ w.heap.size
  old : ∀ b x, g b = some x → b < w0.heap.size → w0.wr b = false → w0.gh b = some x
  still : w.os = w0.os ∧ w.output = w0.output

/-- The world with whatever blocks behind it, and nothing else changed. -/
def ExtAll (w w' : World) : Prop := w.heap.size ≤ w'.heap.size ∧ (∀ b, b < w.heap.size → w'.heap[b]? = w.heap[b]?) ∧ w'.os = w.os ∧ w'.output = w.output

theorem ExtAll.refl (w : World) : ExtAll w w := ⟨Nat.le_refl _, fun _ _ => rfl, rfl, rfl⟩
theorem ExtAll.trans {a b c : World} (h : ExtAll a b) (k : ExtAll b c) : ExtAll a c :=
  ⟨Nat.le_trans h.1 k.1, fun x hx => by rw [k.2.1 x (Nat.lt_of_lt_of_le hx h.1), h.2.1 x hx], k.2.2.1.trans h.2.2.1, k.2.2.2.trans h.2.2.2⟩
theorem ExtAll.get {w w' : World} (h : ExtAll w w') {b : Nat} {x : Obj} (hb : w.heap[b]? = some x) : w'.heap[b]? = some x := by
  have : b < w.heap.size := (Array.getElem?_eq_some_iff.1 hb).1
  rw [h.2.1 b this, hb]

theorem ORel.monoC {g g' : Ghost} {loc loc' : Loc} {w w' : World} {o : Nat} {vo : VO} (hg : g.leC g') (hl : loc.le loc')
    (hw : ∀ b x y, loc o = some x → x.blk = some b → w.heap[b]? = some y → w'.heap[b]? = some y) (h : ORel g loc w o vo) : ORel g' loc' w' o vo := by
  cases vo with
  | box s v =>
    obtain ⟨b, cap, len, T, vs, h1, h2, h3, h4⟩ := h
    exact ⟨b, cap, len, T, vs, hl _ _ h1, hw _ _ _ h1 rfl h2, h3, h4.1, h4.2.monoC hg hl⟩
  | grow s xs =>
    rcases h with ⟨h1, h2⟩ | ⟨b, cap, T, cs, h1, h2, h3, h4, h5⟩
    · exact .inl ⟨hl _ _ h1, h2⟩
    · exact .inr ⟨b, cap, T, cs, hl _ _ h1, hw _ _ _ h1 rfl h2, h3, h4, fun j hj => (h5 j hj).monoC hg⟩
  | loop st =>
    obtain ⟨b, r, h1, h2⟩ := h
    exact ⟨b, r, hl _ _ h1, hw _ _ _ h1 rfl h2⟩
  | map ks vs es =>
    obtain ⟨b, arr, h1, h2, h3⟩ := h
    exact ⟨b, arr, hl _ _ h1, hw _ _ _ h1 rfl h2, h3.monoC hg⟩
  | iter om since last seen =>
    obtain ⟨b, bm, h1, h2, h3, h4⟩ := h
    exact ⟨b, bm, hl _ _ h1, hl _ _ h2, hw _ _ _ h1 rfl h3, h4⟩
  | vec fs =>
    obtain ⟨b, T, vs, h1, h2, h3⟩ := h
    exact ⟨b, T, vs, hl _ _ h1, hw _ _ _ h1 rfl h2, h3.monoC hg hl⟩
  | froz s xs =>
    rcases h with ⟨h1, h2⟩ | ⟨b, cap, T, cs, h1, h2, h3, h4, h5⟩
    · exact .inl ⟨hl _ _ h1, h2⟩
    · exact .inr ⟨b, cap, T, cs, hl _ _ h1, hg _ _ _ _ h2, h3, h4, fun j hj => (h5 j hj).monoC hg⟩
  | dead => trivial

theorem ORel.mono {g g' : Ghost} {loc loc' : Loc} {w w' : World} {o : Nat} {vo : VO} (hg : g.le g') (hl : loc.le loc')
    (hw : ∀ b x y, loc o = some x → x.blk = some b → w.heap[b]? = some y → w'.heap[b]? = some y) (h : ORel g loc w o vo) : ORel g' loc' w' o vo := h.monoC hg.c hl hw

/-- A live object's block lies in the world. -/
theorem ORel.blk_lt {g : Ghost} {loc : Loc} {w : World} {o : Nat} {vo : VO} (h : ORel g loc w o vo) (hl : vo.live = true) {x : Place} {b : Nat} (hx : loc o = some x) (hb : x.blk = some b) : b < w.heap.size := by
  cases vo with
  | box s v =>
    obtain ⟨b', c', l', T, vs, k1, k2, _⟩ := h
    rw [hx] at k1; simp only [Option.some.injEq] at k1
    subst k1
    simp only [Place.blk, Option.some.injEq] at hb
    subst hb
    exact (Array.getElem?_eq_some_iff.1 k2).1
  | grow s xs =>
    rcases h with ⟨k1, _⟩ | ⟨b', c', T, cs, k1, k2, _⟩
    · rw [hx] at k1; simp only [Option.some.injEq] at k1; subst k1; simp [Place.blk] at hb
    · rw [hx] at k1; simp only [Option.some.injEq] at k1
      subst k1
      simp only [Place.blk, Option.some.injEq] at hb
      subst hb
      exact (Array.getElem?_eq_some_iff.1 k2).1
  | loop st =>
    obtain ⟨b', r, k1, k2⟩ := h
    rw [hx] at k1; simp only [Option.some.injEq] at k1
    subst k1
    simp only [Place.blk, Option.some.injEq] at hb
    subst hb
    exact (Array.getElem?_eq_some_iff.1 k2).1
  | map ks vs es =>
    obtain ⟨b', arr, k1, k2, _⟩ := h
    rw [hx] at k1; simp only [Option.some.injEq] at k1
    subst k1
    simp only [Place.blk, Option.some.injEq] at hb
    subst hb
    exact (Array.getElem?_eq_some_iff.1 k2).1
  | iter om since last seen =>
    obtain ⟨b', bm, k1, _, k2, _⟩ := h
    rw [hx] at k1; simp only [Option.some.injEq] at k1
    subst k1
    simp only [Place.blk, Option.some.injEq] at hb
    subst hb
    exact (Array.getElem?_eq_some_iff.1 k2).1
  | vec fs =>
    obtain ⟨b', T, vs, k1, k2, _⟩ := h
    rw [hx] at k1; simp only [Option.some.injEq] at k1
    subst k1
    simp only [Place.blk, Option.some.injEq] at hb
    subst hb
    exact (Array.getElem?_eq_some_iff.1 k2).1
  | froz s xs => simp [VO.live] at hl
  | dead => simp [VO.live] at hl

section
variable {w0 : Base} {hp : Hp} {nx : Nat} {g g' : Ghost} {loc : Loc} {w w' : World}

/-- The world has grown; more of the new blocks may be ghost. -/
theorem HeapRel.grown (H : HeapRel w0 hp g loc w) (he : ExtAll w w') (hg : g.le g') (hnew : ∀ b x, g' b = some x → g b = some x ∨ w.heap.size ≤ b)
    (hgw : ∀ b x, g' b = some x → w'.heap[b]? = some x) : HeapRel w0 hp g' loc w' where
  obj := fun o vo h => (H.obj o vo h).mono hg (Loc.le_refl _) fun b x y _ _ hx => he.get hx
  inj := H.inj
  ghost := hgw
  sep := by
    intro o vo b x h1 h2 h3 h3b
    have h4 := H.sep o vo b x h1 h2 h3 h3b
    cases hb : g' b with
    | none => rfl
    | some y =>
      rcases hnew b y hb with h5 | h5
      · rw [h4] at h5; cases h5
      · have := (H.obj o vo h1).blk_lt h2 h3 h3b
        omega
  low := H.low
  ext := fun b hb hwr => by rw [he.2.1 b (Nat.lt_of_lt_of_le hb H.size)]; exact H.ext b hb hwr
  size := Nat.le_trans H.size he.1
  old := by
    intro b x hb hlt hwr
    rcases hnew b x hb with h | h
    · exact H.old b x h hlt hwr
    · have := H.size; omega
  still := ⟨he.2.2.1.trans H.still.1, he.2.2.2.trans H.still.2⟩

def Loc.upd (loc : Loc) (o : Nat) (x : Place) : Loc := fun k => if k = o then some x else loc k

theorem Loc.le_upd {loc : Loc} {o : Nat} {x : Place} (h : loc o = none) : loc.le (loc.upd o x) := by
  intro k y hk
  unfold Loc.upd
  split
  · rename_i e; subst e; rw [h] at hk; cases hk
  · exact hk

theorem Loc.upd_same {loc : Loc} {o : Nat} {x : Place} : (loc.upd o x) o = some x := by simp [Loc.upd]
theorem Loc.upd_other {loc : Loc} {o k : Nat} {x : Place} (h : k ≠ o) : (loc.upd o x) k = loc k := by simp [Loc.upd, h]

theorem heap_alloc_new (w : World) (o : Obj) : (w.alloc o).heap[w.heap.size]? = some o := by
  show (w.heap.push o)[w.heap.size]? = some o
  simp
theorem ExtAll.alloc (w : World) (o : Obj) : ExtAll w (w.alloc o) :=
  ⟨by simp, (fun b hb => by show (w.heap.push o)[b]? = _; rw [Array.getElem?_push_lt hb]; simp [hb]), rfl, rfl⟩

/-- A new object at a place that is either none or a block that was not there. -/
theorem HeapRel.new (H : HeapRel w0 hp g loc w) (hn : loc nx = none) (he : ExtAll w w') (x : Place) (vo : VO) (hx : ∀ b, x.blk = some b → w.heap.size ≤ b)
    (hO : ORel g (loc.upd nx x) w' nx vo) : HeapRel w0 ((nx, vo) :: hp) g (loc.upd nx x) w' where
  obj := by
    intro o vo' h
    rw [lk_cons] at h
    split at h
    · rename_i e; subst e
      simp only [Option.some.injEq] at h; subst h
      exact hO
    · exact (H.obj o vo' h).mono (Ghost.le_refl _) (Loc.le_upd hn) fun _ _ _ _ _ hy => he.get hy
  inj := by
    intro o o' vo1 vo2 b y y' h1 h2 l1 l2 e1 e2 b1 b2
    rw [lk_cons] at h1 h2
    by_cases a1 : nx = o <;> by_cases a2 : nx = o'
    · rw [← a1, ← a2]
    · subst a1
      rw [Loc.upd_same] at e1
      simp only [Option.some.injEq] at e1; subst e1
      rw [if_neg a2] at h2
      rw [Loc.upd_other (fun e => a2 e.symm)] at e2
      have := (H.obj o' vo2 h2).blk_lt l2 e2 b2
      have := hx b b1
      omega
    · subst a2
      rw [Loc.upd_same] at e2
      simp only [Option.some.injEq] at e2; subst e2
      rw [if_neg a1] at h1
      rw [Loc.upd_other (fun e => a1 e.symm)] at e1
      have := (H.obj o vo1 h1).blk_lt l1 e1 b1
      have := hx b b2
      omega
    · rw [if_neg a1] at h1
      rw [if_neg a2] at h2
      rw [Loc.upd_other (fun e => a1 e.symm)] at e1
      rw [Loc.upd_other (fun e => a2 e.symm)] at e2
      exact H.inj o o' vo1 vo2 b y y' h1 h2 l1 l2 e1 e2 b1 b2
  ghost := fun b y h => he.get (H.ghost b y h)
  sep := by
    intro o vo' b y h1 h2 h3 h4
    rw [lk_cons] at h1
    by_cases a : nx = o
    · subst a
      rw [Loc.upd_same] at h3
      simp only [Option.some.injEq] at h3; subst h3
      cases hb : g b with
      | none => rfl
      | some z =>
        have := (Array.getElem?_eq_some_iff.1 (H.ghost b z hb)).1
        have := hx b h4
        omega
    · rw [if_neg a] at h1
      rw [Loc.upd_other (fun e => a e.symm)] at h3
      exact H.sep o vo' b y h1 h2 h3 h4
  low := by
    intro o vo' b y h1 h2 h3 h4
    rw [lk_cons] at h1
    by_cases a : nx = o
    · subst a
      rw [Loc.upd_same] at h3
      simp only [Option.some.injEq] at h3; subst h3
      have := H.size
      have := hx b h4
      right; omega
    · rw [if_neg a] at h1
      rw [Loc.upd_other (fun e => a e.symm)] at h3
      exact H.low o vo' b y h1 h2 h3 h4
  ext := fun b hb hwr => by rw [he.2.1 b (Nat.lt_of_lt_of_le hb H.size)]; exact H.ext b hb hwr
  size := Nat.le_trans H.size he.1
  old := H.old
  still := ⟨he.2.2.1.trans H.still.1, he.2.2.2.trans H.still.2⟩

/-- An object is replaced: its block alone may have turned. -/
theorem HeapRel.set (H : HeapRel w0 hp g loc w) {o : Nat} {vo vo' : VO} {b : Nat} {x : Place} (ho : lk hp o = some vo) (hlive : vo.live = true) (hb : loc o = some x) (hxb : x.blk = some b)
    (hsz : w'.heap.size = w.heap.size) (hw : ∀ k, k ≠ b → w'.heap[k]? = w.heap[k]?) (hst : w'.os = w.os ∧ w'.output = w.output) (hO : ORel g loc w' o vo') :
    HeapRel w0 ((o, vo') :: hp) g loc w' where
  obj := by
    intro k vk h
    rw [lk_cons] at h
    split at h
    · rename_i e; subst e
      simp only [Option.some.injEq] at h; subst h
      exact hO
    · rename_i hne
      by_cases hl : vk.live = true
      · refine (H.obj k vk h).mono (Ghost.le_refl _) (Loc.le_refl _) fun b' x' y hb' hxb' hy => ?_
        rw [hw b' fun e => hne (by subst e; exact H.inj o k vo vk b' x x' ho h hlive hl hb hb' hxb hxb')]
        exact hy
      · cases vk with
        | dead => trivial
        | froz s xs => exact H.obj k _ h
        | _ => simp [VO.live] at hl
  inj := by
    intro o1 o2 vo1 vo2 b1 c1 c2 h1 h2 l1 l2 e1 e2 f1 f2
    rw [lk_cons] at h1 h2
    by_cases a1 : o = o1 <;> by_cases a2 : o = o2
    · rw [← a1, ← a2]
    · rw [if_neg a2] at h2; subst a1
      exact H.inj o o2 vo vo2 b1 c1 c2 ho h2 hlive l2 e1 e2 f1 f2
    · rw [if_neg a1] at h1; subst a2
      exact H.inj o1 o vo1 vo b1 c1 c2 h1 ho l1 hlive e1 e2 f1 f2
    · rw [if_neg a1] at h1
      rw [if_neg a2] at h2
      exact H.inj o1 o2 vo1 vo2 b1 c1 c2 h1 h2 l1 l2 e1 e2 f1 f2
  ghost := by
    intro k y h
    have hne : k ≠ b := by
      intro e; subst e
      rw [H.sep o vo k x ho hlive hb hxb] at h; cases h
    rw [hw k hne]; exact H.ghost k y h
  sep := by
    intro k vk b' c h1 h2 h3 h4
    rw [lk_cons] at h1
    by_cases a : o = k
    · subst a
      exact H.sep o vo b' c ho hlive h3 h4
    · rw [if_neg a] at h1
      exact H.sep k vk b' c h1 h2 h3 h4
  low := by
    intro k vk b' c h1 h2 h3 h4
    rw [lk_cons] at h1
    by_cases a : o = k
    · subst a
      exact H.low o vo b' c ho hlive h3 h4
    · rw [if_neg a] at h1
      exact H.low k vk b' c h1 h2 h3 h4
  ext := by
    intro k hk hwr
    have h1 := H.low o vo b x ho hlive hb hxb
    have hne : k ≠ b := by
      rintro rfl
      rcases h1 with h1 | h1
      · rw [hwr] at h1; cases h1
      · omega
    rw [hw k hne]; exact H.ext k hk hwr
  size := by rw [hsz]; exact H.size
  old := H.old
  still := ⟨hst.1.trans H.still.1, hst.2.trans H.still.2⟩

/-- A function that writes into an object of ours alone: what it was is what it is now; new blocks may have come. -/
theorem HeapRel.mut (H : HeapRel w0 hp g loc w) {o : Nat} {vo vo' : VO} {x : Place} (ho : lk hp o = some vo) (hlive : vo.live = true) (hx : loc o = some x)
    (hsz : w.heap.size ≤ w'.heap.size) (hw : ∀ k, k < w.heap.size → x.blk ≠ some k → w'.heap[k]? = w.heap[k]?) (hst : w'.os = w.os ∧ w'.output = w.output) (hO : ORel g loc w' o vo') :
    HeapRel w0 ((o, vo') :: hp) g loc w' where
  obj := by
    intro k vk h
    rw [lk_cons] at h
    split at h
    · rename_i e; subst e
      simp only [Option.some.injEq] at h; subst h
      exact hO
    · rename_i hne
      by_cases hl : vk.live = true
      · refine (H.obj k vk h).mono (Ghost.le_refl _) (Loc.le_refl _) fun b' x' y hb' hxb' hy => ?_
        have hlt : b' < w.heap.size := (Array.getElem?_eq_some_iff.1 hy).1
        rw [hw b' hlt fun e => hne (H.inj o k vo vk b' x x' ho h hlive hl hx hb' e hxb')]
        exact hy
      · cases vk with
        | dead => trivial
        | froz s xs => exact H.obj k _ h
        | _ => simp [VO.live] at hl
  inj := by
    intro o1 o2 vo1 vo2 b1 c1 c2 h1 h2 l1 l2 e1 e2 f1 f2
    rw [lk_cons] at h1 h2
    by_cases a1 : o = o1 <;> by_cases a2 : o = o2
    · rw [← a1, ← a2]
    · rw [if_neg a2] at h2; subst a1
      exact H.inj o o2 vo vo2 b1 c1 c2 ho h2 hlive l2 e1 e2 f1 f2
    · rw [if_neg a1] at h1; subst a2
      exact H.inj o1 o vo1 vo b1 c1 c2 h1 ho l1 hlive e1 e2 f1 f2
    · rw [if_neg a1] at h1
      rw [if_neg a2] at h2
      exact H.inj o1 o2 vo1 vo2 b1 c1 c2 h1 h2 l1 l2 e1 e2 f1 f2
  ghost := by
    intro k y h
    have h1 := H.ghost k y h
    rw [hw k (Array.getElem?_eq_some_iff.1 h1).1 fun e => by rw [H.sep o vo k x ho hlive hx e] at h; cases h]
    exact h1
  sep := by
    intro k vk b' c h1 h2 h3 h4
    rw [lk_cons] at h1
    by_cases a : o = k
    · subst a
      exact H.sep o vo b' c ho hlive h3 h4
    · rw [if_neg a] at h1
      exact H.sep k vk b' c h1 h2 h3 h4
  low := by
    intro k vk b' c h1 h2 h3 h4
    rw [lk_cons] at h1
    by_cases a : o = k
    · subst a
      exact H.low o vo b' c ho hlive h3 h4
    · rw [if_neg a] at h1
      exact H.low k vk b' c h1 h2 h3 h4
  ext := by
    intro k hk hwr
    rw [hw k (Nat.lt_of_lt_of_le hk H.size) fun e => by
      rcases H.low o vo k x ho hlive hx e with h1 | h1
      · rw [hwr] at h1; cases h1
      · omega]
    exact H.ext k hk hwr
  size := Nat.le_trans H.size hsz
  old := H.old
  still := ⟨hst.1.trans H.still.1, hst.2.trans H.still.2⟩

/-- An object is given up. -/
theorem HeapRel.kill (H : HeapRel w0 hp g loc w) (o : Nat) : HeapRel w0 ((o, .dead) :: hp) g loc w where
  obj := by
    intro k vk h
    rw [lk_cons] at h
    split at h
    · simp only [Option.some.injEq] at h; subst h; trivial
    · exact H.obj k vk h
  inj := by
    intro o1 o2 vo1 vo2 b1 c1 c2 h1 h2 l1 l2 e1 e2 f1 f2
    rw [lk_cons] at h1 h2
    by_cases a1 : o = o1
    · rw [if_pos a1] at h1; simp only [Option.some.injEq] at h1; subst h1; simp [VO.live] at l1
    by_cases a2 : o = o2
    · rw [if_pos a2] at h2; simp only [Option.some.injEq] at h2; subst h2; simp [VO.live] at l2
    rw [if_neg a1] at h1
    rw [if_neg a2] at h2
    exact H.inj o1 o2 vo1 vo2 b1 c1 c2 h1 h2 l1 l2 e1 e2 f1 f2
  ghost := H.ghost
  sep := by
    intro k vk b' c h1 h2 h3 h4
    rw [lk_cons] at h1
    by_cases a : o = k
    · rw [if_pos a] at h1; simp only [Option.some.injEq] at h1; subst h1; simp [VO.live] at h2
    · rw [if_neg a] at h1
      exact H.sep k vk b' c h1 h2 h3 h4
  low := by
    intro k vk b' c h1 h2 h3 h4
    rw [lk_cons] at h1
    by_cases a : o = k
    · rw [if_pos a] at h1; simp only [Option.some.injEq] at h1; subst h1; simp [VO.live] at h2
    · rw [if_neg a] at h1
      exact H.low k vk b' c h1 h2 h3 h4
  ext := H.ext
  size := H.size
  old := H.old
  still := H.still

theorem HeapRel.drew (H : HeapRel w0 hp g loc w) : HeapRel w0 hp g loc w.drew where
  obj := fun o vo h => (H.obj o vo h).mono (Ghost.le_refl _) (Loc.le_refl _) fun _ _ _ _ _ hx => hx
  inj := H.inj
  ghost := H.ghost
  sep := H.sep
  low := H.low
  ext := H.ext
  size := H.size
  old := H.old
  still := H.still
end

/-! ### Every cell holds one cell's value -/
mutual
theorem Rel.one {g : Ghost} : ∀ {s : Sh} {d : D} {vs : List Value}, Rel g s d vs → ∀ v ∈ vs, v.oneCell' = true
  | .int _, _, _, h => by simp only [Rel] at h; rw [h.1]; simp [Value.oneCell']
  | .bool, _, _, h => by simp only [Rel] at h; rw [h]; simp [Value.oneCell']
  | .str, _, _, h => by simp only [Rel] at h; rw [h]; simp [Value.oneCell']
  | .struct ss, _, _, h => by simp only [Rel] at h; exact Rels.one h
  | .arr n s, d, vs, h => by
    simp only [Rel] at h
    intro v hv
    obtain ⟨i, hi, rfl⟩ := List.getElem_of_mem hv
    rw [h.1] at hi
    by_cases hs : s.size = 0
    · rw [hs] at hi; omega
    · have hpos : 0 < s.size := by omega
      have hj : i / s.size < n := (Nat.div_lt_iff_lt_mul hpos).2 hi
      refine Rel.one (h.2 (i / s.size) hj) _ ?_
      have e : i = i / s.size * s.size + i % s.size := by rw [Nat.mul_comm]; exact (Nat.div_add_mod i s.size).symm
      have hm : i % s.size < s.size := Nat.mod_lt _ hpos
      have : (chunk vs (i / s.size * s.size) s.size)[i % s.size]? = vs[i]? := by
        simp only [chunk, List.getElem?_take, hm, if_true, List.getElem?_drop]
        rw [← e]
      exact List.mem_of_getElem? (by rw [this, List.getElem?_eq_getElem (by rw [h.1]; exact hi)])
  | .slice s, _, _, h => by simp only [Rel] at h; obtain ⟨a, cap, rfl, _⟩ := h; simp [Value.oneCell']
  | .ref, _, _, h => by simp only [Rel] at h
theorem Rels.one {g : Ghost} : ∀ {ss : List Sh} {i : Nat} {d : D} {vs : List Value}, Rels g ss i d vs → ∀ v ∈ vs, v.oneCell' = true
  | [], _, _, _, h => by simp only [Rels] at h; rw [h]; simp
  | s :: ss, i, d, vs, h => by
    simp only [Rels] at h
    intro v hv
    rw [← List.take_append_drop s.size vs] at hv
    rcases List.mem_append.1 hv with hv | hv
    · exact Rel.one h.2.1 v hv
    · exact Rels.one h.2.2 v hv
end

mutual
theorem HC.one {g : Ghost} {loc : Loc} : ∀ {h : HV} {vs : List Value}, HC g loc h vs → ∀ v ∈ vs, v.oneCell' = true
  | .dat s d, vs, h => by simp only [HC] at h; exact h.one
  | .ptr o r p s, vs, h => by simp only [HC] at h; obtain ⟨b, cap, len, off, _, _, _, rfl⟩ := h; simp [Value.oneCell']
  | .own o s, vs, h => by simp only [HC] at h; rcases h with ⟨_, a, rfl⟩ | ⟨b, cap, len, _, rfl⟩ <;> simp [Value.oneCell']
  | .gptr s d, vs, h => by simp only [HC] at h; obtain ⟨b, off, cs, T, fr, _, _, _, rfl⟩ := h; simp [Value.oneCell']
  | .fn f caps, vs, h => by simp only [HC] at h; obtain ⟨cs, _, rfl⟩ := h; simp [Value.oneCell']
  | .st ss fs, vs, h => by simp only [HC] at h; exact HCs.one h
  | .cst v, vs, h => by simp only [HC] at h; obtain ⟨rfl, h⟩ := h; simpa using h
  | .yld o, vs, h => by simp only [HC] at h; obtain ⟨b, r, _, rfl⟩ := h; simp [Value.oneCell']
  | .mp o _ _, vs, h => by simp only [HC] at h; obtain ⟨b, _, rfl⟩ := h; simp [Value.oneCell']
  | .mit o, vs, h => by simp only [HC] at h; obtain ⟨b, _, rfl⟩ := h; simp [Value.oneCell']
  | .tup l, vs, h => by simp only [HC] at h
  | .und, vs, h => by simp only [HC] at h
theorem HCs.one {g : Ghost} {loc : Loc} : ∀ {ss : List Sh} {fs : List HV} {vs : List Value}, HCs g loc ss fs vs → ∀ v ∈ vs, v.oneCell' = true
  | [], [], _, h => by simp only [HCs] at h; rw [h]; simp
  | s :: ss, f :: fs, vs, h => by
    simp only [HCs] at h
    intro v hv
    rw [← List.take_append_drop s.size vs] at hv
    rcases List.mem_append.1 hv with hv | hv
    · exact HC.one h.2.1 v hv
    · exact HCs.one h.2.2 v hv
  | [], _ :: _, _, h => by simp only [HCs] at h
  | _ :: _, [], _, h => by simp only [HCs] at h
end
end Go.Vm
