/- The data of the evaluator: shapes, universal data, and what it means that cells hold data of a shape. The evaluator's values and objects, what they mean in a world, and how the meaning is kept. Paths into data and values; how a program's types lie. Stores into values; the layout of a program's types; loads and stores run. The layout of a program's types; loads, stores and new variables run. Operations that only compute. Equality of structs and arrays; parts of values; values that are built. -/
import Derived.WalkKit
import Derived.RangeFuncKeeps
import Derived.RangeFuncLeaves
import Derived.TacticsIn
import Derived.OrdersIn
import Derived.Sort.LoopGhostIn
import Derived.Laws.IdiomStrings
import Derived.Laws.BytesArg
noncomputable section
namespace Go.Vm
open Go

inductive Sh where
  | int (k : IntKind) | bool | str | struct (fs : List Sh) | arr (n : Nat) (s : Sh) | slice (s : Sh) | ref
  deriving Inhabited

inductive D where
  | Z | I (n : Int) | B (x : Bool) | S (x : ByteArray) | L (xs : List D) | F (g : Nat → D)
  deriving Inhabited

def D.int : D → Int | .I n => n | _ => 0
def D.bool : D → Bool | .B x => x | _ => false
def D.str : D → ByteArray | .S x => x | _ => ByteArray.empty
def D.list : D → List D | .L xs => xs | _ => []
def D.nth : D → Nat → D
  | .L xs, i => xs.getD i .Z
  | .F g, i => g i
  | _, _ => .Z

mutual
def Sh.size : Sh → Nat
  | .struct fs => Sh.sizes fs
  | .arr n s => n * s.size
  | _ => 1
def Sh.sizes : List Sh → Nat
  | [] => 0
  | s :: ss => s.size + Sh.sizes ss
end

def Sh.agg : Sh → Bool
  | .struct _ | .arr _ _ => true
  | _ => false

mutual
def Sh.beq : Sh → Sh → Bool
  | .int k, .int k' => decide (k = k')
  | .bool, .bool => true
  | .str, .str => true
  | .struct a, .struct b => Sh.beqs a b
  | .arr n s, .arr m t => Nat.beq n m && Sh.beq s t
  | .slice s, .slice t => Sh.beq s t
  | .ref, .ref => true
  | _, _ => false
def Sh.beqs : List Sh → List Sh → Bool
  | [], [] => true
  | a :: as, b :: bs => Sh.beq a b && Sh.beqs as bs
  | _, _ => false
end

mutual
theorem Sh.beq_eq : ∀ {a b : Sh}, Sh.beq a b = true → a = b
  | .int k, b, h => by cases b <;> simp_all [Sh.beq]
  | .bool, b, h => by cases b <;> simp_all [Sh.beq]
  | .str, b, h => by cases b <;> simp_all [Sh.beq]
  | .struct a, b, h => by
    cases b <;> simp only [Sh.beq, Bool.false_eq_true] at h
    rw [Sh.beqs_eq h]
  | .arr n s, b, h => by
    cases b <;> simp only [Sh.beq, Bool.false_eq_true, Bool.and_eq_true] at h
    rw [Nat.eq_of_beq_eq_true h.1, Sh.beq_eq h.2]
  | .slice s, b, h => by
    cases b <;> simp only [Sh.beq, Bool.false_eq_true] at h
    rw [Sh.beq_eq h]
  | .ref, b, h => by cases b <;> simp_all [Sh.beq]
theorem Sh.beqs_eq : ∀ {a b : List Sh}, Sh.beqs a b = true → a = b
  | [], b, h => by cases b <;> simp_all [Sh.beqs]
  | a :: as, b, h => by
    cases b <;> simp only [Sh.beqs, Bool.false_eq_true, Bool.and_eq_true] at h
    rw [Sh.beq_eq h.1, Sh.beqs_eq h.2]
end

/-- A part of the heap: blocks that nobody writes any more. -/
abbrev Ghost := Nat → Option Obj

def chunk (vs : List Value) (off n : Nat) : List Value := (vs.drop off).take n

mutual
def Rel (g : Ghost) : Sh → D → List Value → Prop
  | .int k, d, vs => vs = [.int k d.int] ∧ k.min ≤ d.int ∧ d.int ≤ k.max
  | .bool, d, vs => vs = [.bool d.bool]
  | .str, d, vs => vs = [.string d.str] ∧ d.str.size ≤ 9223372036854775807
  | .struct ss, d, vs => Rels g ss 0 d vs
  | .arr n s, d, vs => vs.length = n * s.size ∧ ∀ j, j < n → Rel g s (d.nth j) (chunk vs (j * s.size) s.size)
  | .slice s, d, vs => ∃ a cap, vs = [.slice a d.list.length cap] ∧ match a with
    | none => d.list = [] ∧ cap = 0
    | some a => d.list.length ≤ min cap 9223372036854775807 ∧ (0 < cap → a.spot = none ∧ ∃ cs T fr, g a.block = some (.cells cs T fr) ∧ a.off + cap * s.size ≤ cs.size ∧
      ∀ j, j < d.list.length → Rel g s (d.list.getD j .Z) (chunk cs.toList (a.off + j * s.size) s.size))
  | .ref, _, _ => False
def Rels (g : Ghost) : List Sh → Nat → D → List Value → Prop
  | [], _, _, vs => vs = []
  | s :: ss, i, d, vs => s.size ≤ vs.length ∧ Rel g s (d.nth i) (vs.take s.size) ∧ Rels g ss (i + 1) d (vs.drop s.size)
end

mutual
/-- All numbers lie within their kinds. -/
def InR : Sh → D → Prop
  | .int k, d => k.min ≤ d.int ∧ d.int ≤ k.max
  | .struct ss, d => InRs ss 0 d
  | .arr n s, d => ∀ j, j < n → InR s (d.nth j)
  | .slice s, d => d.list.length ≤ 9223372036854775807 ∧ ∀ j, j < d.list.length → InR s (d.list.getD j .Z)
  | .str, d => d.str.size ≤ 9223372036854775807
  | _, _ => True
def InRs : List Sh → Nat → D → Prop
  | [], _, _ => True
  | s :: ss, i, d => InR s (d.nth i) ∧ InRs ss (i + 1) d
end

theorem chunk_length (vs : List Value) (off n : Nat) (h : off + n ≤ vs.length) : (chunk vs off n).length = n := by
  simp [chunk]; omega

mutual
theorem Rel.length {g : Ghost} : ∀ {s : Sh} {d : D} {vs : List Value}, Rel g s d vs → vs.length = s.size
  | .int _, _, _, h => by simp only [Rel] at h; simp [h.1, Sh.size]
  | .bool, _, _, h => by simp only [Rel] at h; simp [h, Sh.size]
  | .str, _, _, h => by simp only [Rel] at h; simp [h.1, Sh.size]
  | .struct ss, _, _, h => by simp only [Rel] at h; simpa [Sh.size] using Rels.length h
  | .arr n s, _, _, h => by simp only [Rel] at h; simpa [Sh.size] using h.1
  | .slice s, _, _, h => by
    simp only [Rel] at h
    obtain ⟨a, cap, rfl, _⟩ := h
    simp [Sh.size]
  | .ref, _, _, h => by simp only [Rel] at h
theorem Rels.length {g : Ghost} : ∀ {ss : List Sh} {i : Nat} {d : D} {vs : List Value}, Rels g ss i d vs → vs.length = Sh.sizes ss
  | [], _, _, _, h => by simp only [Rels] at h; simp [h, Sh.sizes]
  | s :: ss, i, d, vs, h => by
    simp only [Rels] at h
    have h1 := Rels.length h.2.2
    simp only [List.length_drop] at h1
    simp only [Sh.sizes]
    omega
end

mutual
theorem Rel.inR {g : Ghost} : ∀ {s : Sh} {d : D} {vs : List Value}, Rel g s d vs → InR s d
  | .int _, _, _, h => by simp only [Rel] at h; simpa [InR] using h.2
  | .bool, _, _, _ => by simp [InR]
  | .str, _, _, h => by simp only [Rel] at h; simp only [InR]; exact h.2
  | .struct ss, _, _, h => by simp only [Rel] at h; simp only [InR]; exact Rels.inR h
  | .arr n s, _, _, h => by
    simp only [Rel] at h
    simp only [InR]
    exact fun j hj => Rel.inR (h.2 j hj)
  | .slice s, _, _, h => by
    simp only [Rel] at h
    simp only [InR]
    obtain ⟨a, cap, rfl, h⟩ := h
    cases a with
    | none => simp only at h; exact ⟨by rw [h.1]; simp, fun j hj => by rw [h.1] at hj; simp at hj⟩
    | some a =>
      refine ⟨by have := h.1; omega, fun j hj => ?_⟩
      obtain ⟨_, cs, T, fr, _, _, h⟩ := h.2 (by have := h.1; omega)
      exact Rel.inR (h j hj)
  | .ref, _, _, h => by simp only [Rel] at h
theorem Rels.inR {g : Ghost} : ∀ {ss : List Sh} {i : Nat} {d : D} {vs : List Value}, Rels g ss i d vs → InRs ss i d
  | [], _, _, _, _ => by simp [InRs]
  | s :: ss, i, d, vs, h => by
    simp only [Rels] at h
    simp only [InRs]
    exact ⟨Rel.inR h.2.1, Rels.inR h.2.2⟩
end

/-- One part of the heap holds what the other one holds. -/
def Ghost.le (g g' : Ghost) : Prop := ∀ b x, g b = some x → g' b = some x

theorem Ghost.le_refl (g : Ghost) : g.le g := fun _ _ h => h
theorem Ghost.le_trans {a b c : Ghost} (h : a.le b) (k : b.le c) : a.le c := fun x y z => k x y (h x y z)

/-- As far as cells go. -/
def Ghost.leC (g g' : Ghost) : Prop := ∀ b cs T fr, g b = some (.cells cs T fr) → g' b = some (.cells cs T fr)
theorem Ghost.le.c {g g' : Ghost} (h : g.le g') : g.leC g' := fun b _ _ _ h1 => h b _ h1

mutual
theorem Rel.monoC {g g' : Ghost} (hg : g.leC g') : ∀ {s : Sh} {d : D} {vs : List Value}, Rel g s d vs → Rel g' s d vs
  | .int _, _, _, h => by simp only [Rel] at h ⊢; exact h
  | .bool, _, _, h => by simp only [Rel] at h ⊢; exact h
  | .str, _, _, h => by simp only [Rel] at h ⊢; exact h
  | .struct ss, _, _, h => by simp only [Rel] at h ⊢; exact Rels.monoC hg h
  | .arr n s, _, _, h => by
    simp only [Rel] at h ⊢
    exact ⟨h.1, fun j hj => Rel.monoC hg (h.2 j hj)⟩
  | .slice s, _, _, h => by
    simp only [Rel] at h ⊢
    obtain ⟨a, cap, rfl, h⟩ := h
    refine ⟨a, cap, rfl, ?_⟩
    cases a with
    | none => exact h
    | some a =>
      refine ⟨h.1, fun hc => ?_⟩
      obtain ⟨h1, cs, T, fr, h3, h4, h⟩ := h.2 hc
      exact ⟨h1, cs, T, fr, hg _ _ _ _ h3, h4, fun j hj => Rel.monoC hg (h j hj)⟩
  | .ref, _, _, h => by simp only [Rel] at h
theorem Rels.monoC {g g' : Ghost} (hg : g.leC g') : ∀ {ss : List Sh} {i : Nat} {d : D} {vs : List Value}, Rels g ss i d vs → Rels g' ss i d vs
  | [], _, _, _, h => by simp only [Rels] at h ⊢; exact h
  | s :: ss, i, d, vs, h => by
    simp only [Rels] at h ⊢
    exact ⟨h.1, Rel.monoC hg h.2.1, Rels.monoC hg h.2.2⟩
end

theorem Rel.mono {g g' : Ghost} (hg : g.le g') {s : Sh} {d : D} {vs : List Value} (h : Rel g s d vs) : Rel g' s d vs := h.monoC hg.c
theorem Rels.mono {g g' : Ghost} (hg : g.le g') {ss : List Sh} {i : Nat} {d : D} {vs : List Value} (h : Rels g ss i d vs) : Rels g' ss i d vs := h.monoC hg.c

/-! ### Places within data -/

inductive PS where
  | fld (i : Nat) | idx (n : Nat)

/-- The shape behind one step, and how far it lies behind the beginning. -/
def Sh.step : Sh → PS → Option (Sh × Nat)
  | .struct ss, .fld i => match ss[i]? with
    | some s => some (s, Sh.sizes (ss.take i))
    | none => none
  | .arr _ s, .idx i => some (s, i * s.size)
  | _, _ => none

/-- The index lies within. -/
def Sh.inStep : Sh → PS → Prop
  | .arr n _, .idx i => i < n
  | _, _ => True

def ofNth (n : Nat) (d : D) (i : Nat) (v : D) : List D := (List.range n).map fun j => match Nat.beq j i with | true => v | false => d.nth j

def D.putStep : Sh → D → PS → D → D
  | .struct ss, d, .fld i, v => .L (ofNth ss.length d i v)
  | .arr _ _, d, .idx i, v => .F (fun j => match Nat.beq j i with | true => v | false => d.nth j)
  | _, d, _, _ => d

def D.getStep (d : D) : PS → D
  | .fld i => d.nth i
  | .idx i => d.nth i

theorem ofNth_nth (n : Nat) (d : D) (i j : Nat) (v : D) (hj : j < n) : (D.L (ofNth n d i v)).nth j = if j = i then v else d.nth j := by
  simp only [D.nth, ofNth]
  rw [List.getD_eq_getElem?_getD, List.getElem?_map, List.getElem?_range hj]
  simp only [Option.map_some, Option.getD_some]
  by_cases h : j = i
  · subst h; simp
  · have hb : Nat.beq j i = false := Bool.eq_false_iff.2 fun hh => h (Nat.eq_of_beq_eq_true hh)
    simp [h, hb]

theorem Rels.get {g : Ghost} : ∀ {ss : List Sh} {i : Nat} {d : D} {vs : List Value} (k : Nat) {s : Sh}, Rels g ss i d vs → ss[k]? = some s →
    Rel g s (d.nth (i + k)) (chunk vs (Sh.sizes (ss.take k)) s.size) ∧ Sh.sizes (ss.take k) + s.size ≤ vs.length
  | [], _, _, _, k, _, _, hk => by simp at hk
  | s0 :: ss, i, d, vs, 0, s, h, hk => by
    simp only [Rels] at h
    simp at hk
    subst hk
    simp only [List.take_zero, Sh.sizes, chunk, List.drop_zero, Nat.add_zero]
    exact ⟨h.2.1, by omega⟩
  | s0 :: ss, i, d, vs, k + 1, s, h, hk => by
    simp only [Rels] at h
    have hk' : ss[k]? = some s := by simpa using hk
    obtain ⟨h1, h2⟩ := Rels.get k h.2.2 hk'
    simp only [List.take_succ_cons, Sh.sizes]
    simp only [List.length_drop] at h2
    refine ⟨?_, by omega⟩
    have e : i + (k + 1) = i + 1 + k := by omega
    rw [e]
    simpa [chunk, List.drop_drop] using h1

theorem Rel.get {g : Ghost} {s s' : Sh} {d : D} {vs : List Value} {p : PS} {off : Nat} (h : Rel g s d vs) (hp : s.step p = some (s', off)) (hi : s.inStep p) :
    Rel g s' (d.getStep p) (chunk vs off s'.size) ∧ off + s'.size ≤ s.size := by
  have hl := h.length
  cases s with
  | struct ss =>
    cases p with
    | fld i =>
      simp only [Sh.step] at hp
      split at hp
      · rename_i s0 hs
        simp only [Option.some.injEq, Prod.mk.injEq] at hp
        obtain ⟨rfl, rfl⟩ := hp
        simp only [Rel] at h
        have h2 := Rels.get i h hs
        rw [hl] at h2
        simpa [D.getStep] using h2
      · cases hp
    | idx i => simp [Sh.step] at hp
  | arr n s =>
    cases p with
    | fld i => simp [Sh.step] at hp
    | idx i =>
      simp only [Sh.step, Option.some.injEq, Prod.mk.injEq] at hp
      obtain ⟨rfl, rfl⟩ := hp
      simp only [Rel] at h
      simp only [Sh.inStep] at hi
      refine ⟨h.2 i hi, ?_⟩
      simp only [Sh.size]
      calc i * s.size + s.size = (i + 1) * s.size := by rw [Nat.add_mul, Nat.one_mul]
        _ ≤ n * s.size := Nat.mul_le_mul_right _ hi
  | _ => simp [Sh.step] at hp

/-- Cells with others put in their middle. -/
def splice (vs : List Value) (off : Nat) (us : List Value) : List Value := vs.take off ++ us ++ vs.drop (off + us.length)

theorem splice_length (vs : List Value) (off : Nat) (us : List Value) (h : off + us.length ≤ vs.length) : (splice vs off us).length = vs.length := by
  simp [splice]; omega

theorem chunk_splice_same (vs us : List Value) (off : Nat) (h : off + us.length ≤ vs.length) : chunk (splice vs off us) off us.length = us := by
  have hl : (vs.take off).length = off := by simp; omega
  have : splice vs off us = vs.take off ++ (us ++ vs.drop (off + us.length)) := by simp [splice]
  rw [chunk, this, List.drop_left' hl]
  simp

theorem chunk_splice_other (vs us : List Value) (off o n : Nat) (h : off + us.length ≤ vs.length) (hd : o + n ≤ off ∨ off + us.length ≤ o) :
    chunk (splice vs off us) o n = chunk vs o n := by
  have hl : (vs.take off).length = off := by simp; omega
  have hs : splice vs off us = vs.take off ++ (us ++ vs.drop (off + us.length)) := by simp [splice]
  rcases hd with hd | hd
  · rw [chunk, hs, List.drop_append_of_le_length (by omega), List.take_append_of_le_length (by simp; omega), chunk, List.drop_take, List.take_take]
    congr 1; omega
  · have e : o = (vs.take off ++ us).length + (o - (off + us.length)) := by simp; omega
    have hs2 : splice vs off us = (vs.take off ++ us) ++ vs.drop (off + us.length) := by simp [splice]
    rw [chunk, hs2, e, List.drop_length_add_append, chunk, List.drop_drop]
    congr 2; simp; omega

theorem Rels.put {g : Ghost} {s : Sh} {v : D} {us : List Value} (hv : Rel g s v us) : ∀ {ss : List Sh} {i : Nat} {d : D} {vs : List Value} (k : Nat) (d' : D),
    Rels g ss i d vs → ss[k]? = some s → (∀ j, i ≤ j → j < i + ss.length → d'.nth j = if j = i + k then v else d.nth j) →
    Rels g ss i d' (splice vs (Sh.sizes (ss.take k)) us)
  | [], _, _, _, k, _, _, hk, _ => by simp at hk
  | s0 :: ss, i, d, vs, 0, d', h, hk, hd => by
    simp only [Rels] at h ⊢
    simp at hk
    subst hk
    have hul := hv.length
    have hlen : us.length ≤ vs.length := by omega
    simp only [List.take_zero, Sh.sizes]
    have e0 : d'.nth i = v := by rw [hd i (Nat.le_refl _) (by simp)]; simp
    have es : splice vs 0 us = us ++ vs.drop us.length := by simp [splice]
    refine ⟨?_, ?_, ?_⟩
    · rw [splice_length _ _ _ (by omega)]; exact h.1
    · rw [e0, es, List.take_left' hul]; exact hv
    · rw [es, List.drop_left' hul, hul]
      refine Rels.congr ?_ h.2.2
      intro j hj hj2
      rw [hd j (by omega) (by simp; omega), if_neg (by omega)]
  | s0 :: ss, i, d, vs, k + 1, d', h, hk, hd => by
    have hk' : ss[k]? = some s := by simpa using hk
    have hge := Rels.get k (by simp only [Rels] at h; exact h.2.2) hk'
    simp only [Rels] at h ⊢
    have hul := hv.length
    have hd2 := hge.2
    simp only [List.length_drop] at hd2
    simp only [List.take_succ_cons, Sh.sizes]
    have hlen : s0.size + Sh.sizes (ss.take k) + us.length ≤ vs.length := by omega
    have e0 : d'.nth i = d.nth i := by rw [hd i (Nat.le_refl _) (by simp), if_neg (by omega)]
    refine ⟨?_, ?_, ?_⟩
    · rw [splice_length _ _ _ hlen]; exact h.1
    · have := chunk_splice_other vs us (s0.size + Sh.sizes (ss.take k)) 0 s0.size hlen (.inl (by omega))
      simp only [chunk, List.drop_zero] at this
      rw [e0, this]; exact h.2.1
    · have e1 : (splice vs (s0.size + Sh.sizes (ss.take k)) us).drop s0.size = splice (vs.drop s0.size) (Sh.sizes (ss.take k)) us := by
        simp only [splice, List.append_assoc]
        rw [List.drop_append_of_le_length (by simp; omega), List.drop_take, List.drop_drop]
        have a1 : s0.size + Sh.sizes (ss.take k) - s0.size = Sh.sizes (ss.take k) := by omega
        have a2 : s0.size + (Sh.sizes (ss.take k) + us.length) = s0.size + Sh.sizes (ss.take k) + us.length := by omega
        rw [a1, a2]
      rw [e1]
      refine Rels.put hv k d' h.2.2 hk' ?_
      intro j hj hj2
      rw [hd j (by omega) (by simp; omega)]
      have : (j = i + (k + 1)) ↔ (j = i + 1 + k) := by omega
      simp only [this]
where
  Rels.congr {g : Ghost} : ∀ {ss : List Sh} {i : Nat} {d d' : D} {vs : List Value}, (∀ j, i ≤ j → j < i + ss.length → d'.nth j = d.nth j) → Rels g ss i d vs → Rels g ss i d' vs
    | [], _, _, _, _, _, h => by simpa only [Rels] using h
    | s :: ss, i, d, d', vs, hd, h => by
      simp only [Rels] at h ⊢
      refine ⟨h.1, ?_, Rels.congr (fun j h1 h2 => hd j (by omega) (by simp; omega)) h.2.2⟩
      rw [hd i (Nat.le_refl _) (by simp)]; exact h.2.1

theorem Rel.putStep {g : Ghost} {s s' : Sh} {d v : D} {vs us : List Value} {p : PS} {off : Nat} (h : Rel g s d vs) (hp : s.step p = some (s', off)) (hi : s.inStep p)
    (hv : Rel g s' v us) : Rel g s (d.putStep s p v) (splice vs off us) := by
  have hge := Rel.get h hp hi
  have hl := h.length
  have hul := hv.length
  cases s with
  | struct ss =>
    cases p with
    | fld i =>
      simp only [Sh.step] at hp
      split at hp
      · rename_i s0 hs
        simp only [Option.some.injEq, Prod.mk.injEq] at hp
        obtain ⟨rfl, rfl⟩ := hp
        simp only [Rel, D.putStep] at h ⊢
        refine Rels.put hv i _ h hs ?_
        intro j _ hj
        rw [ofNth_nth _ _ _ _ _ (by omega)]
        simp
      · cases hp
    | idx i => simp [Sh.step] at hp
  | arr n s =>
    cases p with
    | fld i => simp [Sh.step] at hp
    | idx i =>
      simp only [Sh.step, Option.some.injEq, Prod.mk.injEq] at hp
      obtain ⟨rfl, rfl⟩ := hp
      simp only [Rel, D.putStep] at h ⊢
      simp only [Sh.inStep] at hi
      have hb : i * s.size + us.length ≤ vs.length := by have := hge.2; omega
      refine ⟨by rw [splice_length _ _ _ hb]; exact h.1, ?_⟩
      intro j hj
      simp only [D.nth]
      by_cases e : j = i
      · subst e
        have e2 := chunk_splice_same vs us (j * s.size) hb
        rw [hul] at e2
        rw [e2]; simpa using hv
      · have hbf : Nat.beq j i = false := Bool.eq_false_iff.2 fun hh => e (Nat.eq_of_beq_eq_true hh)
        rw [chunk_splice_other vs us _ _ _ hb, hbf]
        · exact h.2 j hj
        · rcases Nat.lt_or_gt_of_ne e with h1 | h1
          · left
            calc j * s.size + s.size = (j + 1) * s.size := by rw [Nat.add_mul, Nat.one_mul]
              _ ≤ i * s.size := Nat.mul_le_mul_right _ h1
          · right
            rw [hul]
            calc i * s.size + s.size = (i + 1) * s.size := by rw [Nat.add_mul, Nat.one_mul]
              _ ≤ j * s.size := Nat.mul_le_mul_right _ h1
  | _ => simp [Sh.step] at hp

end Go.Vm

noncomputable section
namespace Go.Vm
open Go

/-- How a loop over a function stands. -/
inductive LSt where
  | ready | busy | done (x : Exit)

def jumpOf : Exit → Option Code
  | .exit id => some (.exit id)
  | .ret => some .ret
  | .goto l => some (.goto l)
  | _ => none

def LSt.at (r : Go.Loop) : LSt → Go.Loop
  | .ready => { r with state := .ready, pending := none }
  | .busy => { r with state := .busy, pending := none }
  | .done x => { r with state := .done, pending := jumpOf x }

inductive HV where
  | dat (s : Sh) (d : D)
  | ptr (o : Nat) (r : Sh) (p : List PS) (s : Sh)
  | own (o : Nat) (s : Sh)
  | sub (o : Nat) (s : Sh) (a b : Nat)
  | gptr (s : Sh) (d : D)
  | fn (f : Nat) (caps : List HV)
  | st (ss : List Sh) (fs : List HV)
  | tup (vs : List HV)
  | cst (v : Value)
  | yld (o : Nat)
  | mp (o : Nat) (ks vs : Sh)
  | mit (o : Nat)
  | und
  deriving Inhabited

inductive VO where
  | box (s : Sh) (v : HV)
  | grow (s : Sh) (xs : List D)
  | loop (st : LSt)
  | map (ks vs : Sh) (es : List (D × D))
  | iter (om since last : Nat) (seen : List Nat)
  | vec (fs : List HV)
  | froz (s : Sh) (xs : List D)
  | dead

/-- Where an object lies: a block, with its capacity as a slice; or nowhere (the nil slice). -/
inductive Place where
  | nil | at (b cap len : Nat) (r : Sh) | loop (b : Nat) (r : Go.Loop) | obj (b : Nat)

def Place.blk : Place → Option Nat
  | .nil => none
  | .at b _ _ _ => some b
  | .loop b _ => some b
  | .obj b => some b

abbrev Loc := Nat → Option Place

def HV.agg : HV → Bool
  | .dat s _ => s.agg
  | .st _ _ => true
  | _ => false

def mkV (agg : Bool) (vs : List Value) : Value := match agg with
  | true => .agg vs.toArray
  | false => vs.headD undef

/-- The shape and the offset behind a path. -/
def Sh.navs : Sh → List PS → Option (Sh × Nat)
  | s, [] => some (s, 0)
  | s, p :: ps => match s.step p with
    | some (s', o) => match Sh.navs s' ps with
      | some (s'', o') => some (s'', o + o')
      | none => none
    | none => none

/-- All indices of a path lie within. -/
def Sh.inPath : Sh → List PS → Prop
  | _, [] => True
  | s, p :: ps => s.inStep p ∧ ∀ s' o, s.step p = some (s', o) → Sh.inPath s' ps

/-- From here on a function's number says that it is bound to its first arguments. -/
def bndN : Nat := 1000000
/-- A function's value; from a million on: one that is bound to its first arguments. -/
def fnV (f : Nat) (cs : List Value) : Value := match Nat.ble bndN f with
  | true => .func (.func (f - bndN)) cs.toArray #[]
  | false => .func (.func f) #[] cs.toArray
def bndF (f : Nat) : Nat := f + bndN
theorem bndF_le (f : Nat) : Nat.ble bndN (bndF f) = true := Nat.ble_eq_true_of_le (Nat.le_add_left _ _)
theorem bndF_sub (f : Nat) : bndF f - bndN = f := Nat.add_sub_cancel ..
theorem fnV_f {f : Nat} {cs : List Value} (h : Nat.ble bndN f = false) : fnV f cs = .func (.func f) #[] cs.toArray := by unfold fnV; rw [h]
theorem fnV_b {f : Nat} {cs : List Value} (h : Nat.ble bndN f = true) : fnV f cs = .func (.func (f - bndN)) cs.toArray #[] := by unfold fnV; rw [h]

mutual
def HC (g : Ghost) (loc : Loc) : HV → List Value → Prop
  | .dat s d, vs => Rel g s d vs
  | .ptr o r p s, vs => ∃ b cap len off, loc o = some (.at b cap len r) ∧ r.navs p = some (s, off) ∧ r.inPath p ∧ vs = [.pointer (some ⟨b, off, none⟩)]
  | .own o s, vs => (loc o = some .nil ∧ ∃ a, vs = [.slice a 0 0]) ∨ ∃ b cap len, loc o = some (.at b cap len (.arr len s)) ∧ vs = [.slice (some ⟨b, 0, none⟩) len cap]
  | .sub o s i j, vs => (loc o = some .nil ∧ i = 0 ∧ j = 0 ∧ ∃ a, vs = [.slice a 0 0]) ∨ ∃ b cap len, loc o = some (.at b cap len (.arr len s)) ∧ i ≤ j ∧ j ≤ len ∧ vs = [.slice (if cap = i then some ⟨b, 0, none⟩ else some ⟨b, i * s.size, none⟩) (j - i) (cap - i)]
  | .gptr s d, vs => ∃ b off cs T fr, g b = some (.cells cs T fr) ∧ off + s.size ≤ cs.size ∧ Rel g s d (chunk cs.toList off s.size) ∧ vs = [.pointer (some ⟨b, off, none⟩)]
  | .fn f caps, vs => ∃ cs, HVs g loc caps cs ∧ vs = [fnV f cs]
  | .st ss fs, vs => HCs g loc ss fs vs
  | .cst v, vs => vs = [v] ∧ v.oneCell' = true
  | .yld o, vs => ∃ b r, loc o = some (.loop b r) ∧ vs = [.func (.yield b) #[] #[]]
  | .mp o _ _, vs => ∃ b, loc o = some (.obj b) ∧ vs = [.map (some b)]
  | .mit o, vs => ∃ b, loc o = some (.obj b) ∧ vs = [.pointer (some ⟨b, 0, none⟩)]
  | .tup _, _ => False
  | .und, _ => False
def HCs (g : Ghost) (loc : Loc) : List Sh → List HV → List Value → Prop
  | [], [], vs => vs = []
  | s :: ss, f :: fs, vs => s.size ≤ vs.length ∧ HC g loc f (vs.take s.size) ∧ HCs g loc ss fs (vs.drop s.size)
  | _, _, _ => False
def HVs (g : Ghost) (loc : Loc) : List HV → List Value → Prop
  | [], [] => True
  | h :: hs, v :: vs => (∃ us, HC g loc h us ∧ v = mkV h.agg us) ∧ HVs g loc hs vs
  | _, _ => False
end

def HRel (g : Ghost) (loc : Loc) : HV → Value → Prop
  | .und, _ => True
  | .tup l, v => ∃ vs, HVs g loc l vs ∧ v = .tuple vs.toArray
  | h, v => ∃ us, HC g loc h us ∧ v = mkV h.agg us

def Loc.le (l l' : Loc) : Prop := ∀ o x, l o = some x → l' o = some x
theorem Loc.le_refl (l : Loc) : l.le l := fun _ _ h => h
theorem Loc.le_trans {a b c : Loc} (h : a.le b) (k : b.le c) : a.le c := fun x y z => k x y (h x y z)

section
variable {g g' : Ghost} {loc loc' : Loc}

mutual
theorem HC.monoC (hg : g.leC g') (hl : loc.le loc') : ∀ {h : HV} {vs : List Value}, HC g loc h vs → HC g' loc' h vs
  | .dat s d, vs, h => by simp only [HC] at h ⊢; exact h.monoC hg
  | .ptr o r p s, vs, h => by
    simp only [HC] at h ⊢
    obtain ⟨b, cap, len, off, h1, h2⟩ := h
    exact ⟨b, cap, len, off, hl _ _ h1, h2⟩
  | .own o s, vs, h => by
    simp only [HC] at h ⊢
    rcases h with ⟨h1, h2⟩ | ⟨b, cap, len, h1, h2⟩
    · exact .inl ⟨hl _ _ h1, h2⟩
    · exact .inr ⟨b, cap, len, hl _ _ h1, h2⟩
  | .sub o s i j, vs, h => by
    simp only [HC] at h ⊢
    rcases h with ⟨h1, h2⟩ | ⟨b, cap, len, h1, h2⟩
    · exact .inl ⟨hl _ _ h1, h2⟩
    · exact .inr ⟨b, cap, len, hl _ _ h1, h2⟩
  | .gptr s d, vs, h => by
    simp only [HC] at h ⊢
    obtain ⟨b, off, cs, T, fr, h1, h2, h3, h4⟩ := h
    exact ⟨b, off, cs, T, fr, hg _ _ _ _ h1, h2, h3.monoC hg, h4⟩
  | .fn f caps, vs, h => by
    simp only [HC] at h ⊢
    obtain ⟨cs, h1, h2⟩ := h
    exact ⟨cs, HVs.monoC hg hl h1, h2⟩
  | .st ss fs, vs, h => by simp only [HC] at h ⊢; exact HCs.monoC hg hl h
  | .cst v, vs, h => by simp only [HC] at h ⊢; exact h
  | .yld o, vs, h => by
    simp only [HC] at h ⊢
    obtain ⟨b, r, h1, h2⟩ := h
    exact ⟨b, r, hl _ _ h1, h2⟩
  | .mp o _ _, vs, h => by
    simp only [HC] at h ⊢
    obtain ⟨b, h1, h2⟩ := h
    exact ⟨b, hl _ _ h1, h2⟩
  | .mit o, vs, h => by
    simp only [HC] at h ⊢
    obtain ⟨b, h1, h2⟩ := h
    exact ⟨b, hl _ _ h1, h2⟩
  | .tup l, vs, h => by simp only [HC] at h
  | .und, vs, h => by simp only [HC] at h
theorem HCs.monoC (hg : g.leC g') (hl : loc.le loc') : ∀ {ss : List Sh} {fs : List HV} {vs : List Value}, HCs g loc ss fs vs → HCs g' loc' ss fs vs
  | [], [], _, h => by simp only [HCs] at h ⊢; exact h
  | s :: ss, f :: fs, vs, h => by
    simp only [HCs] at h ⊢
    exact ⟨h.1, HC.monoC hg hl h.2.1, HCs.monoC hg hl h.2.2⟩
  | [], _ :: _, _, h => by simp only [HCs] at h
  | _ :: _, [], _, h => by simp only [HCs] at h
theorem HVs.monoC (hg : g.leC g') (hl : loc.le loc') : ∀ {hs : List HV} {vs : List Value}, HVs g loc hs vs → HVs g' loc' hs vs
  | [], [], _ => by simp only [HVs]
  | h :: hs, v :: vs, k => by
    simp only [HVs] at k ⊢
    obtain ⟨⟨us, h1, h2⟩, h3⟩ := k
    exact ⟨⟨us, HC.monoC hg hl h1, h2⟩, HVs.monoC hg hl h3⟩
  | [], _ :: _, h => by simp only [HVs] at h
  | _ :: _, [], h => by simp only [HVs] at h
end

theorem HRel.monoC (hg : g.leC g') (hl : loc.le loc') {h : HV} {v : Value} (k : HRel g loc h v) : HRel g' loc' h v := by
  cases h <;> simp only [HRel] at k ⊢
  case tup l => obtain ⟨vs, h1, h2⟩ := k; exact ⟨vs, h1.monoC hg hl, h2⟩
  all_goals (obtain ⟨us, h1, h2⟩ := k; exact ⟨us, h1.monoC hg hl, h2⟩)

theorem HC.mono (hg : g.le g') (hl : loc.le loc') {h : HV} {vs : List Value} (k : HC g loc h vs) : HC g' loc' h vs := k.monoC hg.c hl
theorem HCs.mono (hg : g.le g') (hl : loc.le loc') {ss : List Sh} {fs : List HV} {vs : List Value} (k : HCs g loc ss fs vs) : HCs g' loc' ss fs vs := k.monoC hg.c hl
theorem HVs.mono (hg : g.le g') (hl : loc.le loc') {hs : List HV} {vs : List Value} (k : HVs g loc hs vs) : HVs g' loc' hs vs := k.monoC hg.c hl
theorem HRel.mono (hg : g.le g') (hl : loc.le loc') {h : HV} {v : Value} (k : HRel g loc h v) : HRel g' loc' h v := k.monoC hg.c hl

theorem HRel.dat_iff {s : Sh} {d : D} {v : Value} : HRel g loc (.dat s d) v ↔ ∃ us, Rel g s d us ∧ v = mkV s.agg us := by
  simp only [HRel, HC, HV.agg]

/-! ### Scalars -/
theorem HRel.int {k : IntKind} {d : D} {v : Value} (h : HRel g loc (.dat (.int k) d) v) : v = .int k d.int ∧ k.min ≤ d.int ∧ d.int ≤ k.max := by
  obtain ⟨us, h1, rfl⟩ := HRel.dat_iff.1 h
  simp only [Rel] at h1
  obtain ⟨rfl, h2⟩ := h1
  exact ⟨rfl, h2⟩
theorem HRel.int_mk {k : IntKind} {n : Int} (h1 : k.min ≤ n) (h2 : n ≤ k.max) : HRel g loc (.dat (.int k) (.I n)) (.int k n) :=
  HRel.dat_iff.2 ⟨[.int k n], by simp only [Rel]; exact ⟨rfl, h1, h2⟩, rfl⟩
theorem HRel.bool {d : D} {v : Value} (h : HRel g loc (.dat .bool d) v) : v = .bool d.bool := by
  obtain ⟨us, h1, rfl⟩ := HRel.dat_iff.1 h
  simp only [Rel] at h1
  subst h1; rfl
theorem HRel.bool_mk {b : Bool} : HRel g loc (.dat .bool (.B b)) (.bool b) :=
  HRel.dat_iff.2 ⟨[.bool b], by simp only [Rel, D.bool], rfl⟩

/-- The cells of a value. -/
theorem HRel.cells {h : HV} {v : Value} (hh : ∃ us, HC g loc h us ∧ v = mkV h.agg us) : HC g loc h v.cells.toList := by
  obtain ⟨us, h1, rfl⟩ := hh
  cases h with
  | dat s d =>
    cases s <;> simp only [HC, Rel] at h1 <;> simp only [HV.agg, Sh.agg, mkV, Value.cells, HC, Rel] <;> try exact h1
    · obtain ⟨rfl, k1⟩ := h1; exact ⟨rfl, k1⟩
    · subst h1; rfl
    · obtain ⟨rfl, k1⟩ := h1; exact ⟨rfl, k1⟩
    · obtain ⟨a, cap, rfl, k1⟩ := h1; exact ⟨a, cap, rfl, k1⟩
  | ptr o r p s =>
    simp only [HC] at h1 ⊢
    obtain ⟨b, cap, len, off, k1, k2, k3, rfl⟩ := h1
    exact ⟨b, cap, len, off, k1, k2, k3, rfl⟩
  | own o s =>
    simp only [HC] at h1 ⊢
    rcases h1 with ⟨k1, a, rfl⟩ | ⟨b, cap, len, k1, rfl⟩
    · exact .inl ⟨k1, a, rfl⟩
    · exact .inr ⟨b, cap, len, k1, rfl⟩
  | sub o s i j =>
    simp only [HC] at h1 ⊢
    rcases h1 with ⟨k1, k2, k3, a, rfl⟩ | ⟨b, cap, len, k1, k2, k3, rfl⟩
    · exact .inl ⟨k1, k2, k3, a, rfl⟩
    · exact .inr ⟨b, cap, len, k1, k2, k3, rfl⟩
  | yld o =>
    simp only [HC] at h1 ⊢
    obtain ⟨b, r, k1, rfl⟩ := h1
    exact ⟨b, r, k1, rfl⟩
  | mp o ks vs =>
    simp only [HC] at h1 ⊢
    obtain ⟨b, k1, rfl⟩ := h1
    exact ⟨b, k1, rfl⟩
  | mit o =>
    simp only [HC] at h1 ⊢
    obtain ⟨b, k1, rfl⟩ := h1
    exact ⟨b, k1, rfl⟩
  | gptr s d =>
    simp only [HC] at h1 ⊢
    obtain ⟨b, off, cs, T, fr, k1, k2, k3, rfl⟩ := h1
    exact ⟨b, off, cs, T, fr, k1, k2, k3, rfl⟩
  | fn f caps =>
    simp only [HC] at h1 ⊢
    obtain ⟨cs, k1, rfl⟩ := h1
    refine ⟨cs, k1, ?_⟩
    cases hb : Nat.ble bndN f
    · rw [fnV_f hb]; rfl
    · rw [fnV_b hb]; rfl
  | st ss fs => simpa only [HV.agg, mkV, Value.cells] using h1
  | cst v =>
    simp only [HC] at h1 ⊢
    obtain ⟨rfl, h⟩ := h1
    refine ⟨?_, h⟩
    simp only [HV.agg, mkV, List.headD_cons]
    cases v <;> simp_all [Value.cells, Value.oneCell']
  | tup l => simp only [HC] at h1
  | und => simp only [HC] at h1
end

mutual
/-- The value is one of this shape. -/
def fits : Sh → HV → Bool
  | s, .dat s' _ => s'.beq s
  | .struct ss, .st ss' fs => Sh.beqs ss' ss && fitss ss fs
  | _, .st _ _ => false
  | _, .tup _ => false
  | _, .und => false
  | s, _ => Nat.beq s.size 1 && !s.agg
def fitss : List Sh → List HV → Bool
  | [], [] => true
  | s :: ss, f :: fs => fits s f && fitss ss fs
  | _, _ => false
end

/-! ### Objects -/
def VO.live : VO → Bool
  | .dead => false
  | .froz _ _ => false
  | _ => true

/-- The entries of a map. -/
def EntR (g : Ghost) (ks vs : Sh) : Nat → List (D × D) → List MapEntry → Prop
  | _, [], [] => True
  | i, (k, v) :: es, e :: arr => e.born = i ∧ (∃ us, Rel g ks k us ∧ e.key = mkV ks.agg us) ∧ (∃ us, Rel g vs v us ∧ e.val = mkV vs.agg us) ∧ EntR g ks vs (i + 1) es arr
  | _, _, _ => False
theorem EntR.monoC {g g' : Ghost} (hg : g.leC g') {ks vs : Sh} : ∀ {i : Nat} {es : List (D × D)} {arr : List MapEntry}, EntR g ks vs i es arr → EntR g' ks vs i es arr
  | _, [], [], _ => by simp only [EntR]
  | _, (k, v) :: es, e :: arr, h => by
    simp only [EntR] at h ⊢
    obtain ⟨h1, ⟨us, h2, h3⟩, ⟨us', h4, h5⟩, h6⟩ := h
    exact ⟨h1, ⟨us, h2.monoC hg, h3⟩, ⟨us', h4.monoC hg, h5⟩, h6.monoC hg⟩
  | _, [], _ :: _, h => by simp [EntR] at h
  | _, _ :: _, [], h => by simp [EntR] at h

/-- How many elements an array has; how a variable's place stands to it. -/
def Sh.arrN : Sh → Nat
  | .arr n _ => n
  | _ => 0
def arrC (s : Sh) (cap len : Nat) : Prop := match s with
  | .arr n _ => cap = n ∧ len = n
  | _ => True
theorem arrC_mk (s : Sh) : arrC s s.arrN s.arrN := by cases s <;> simp [arrC, Sh.arrN]
def ORel (g : Ghost) (loc : Loc) (w : World) (o : Nat) : VO → Prop
  | .box s v => ∃ b cap len T vs, loc o = some (.at b cap len s) ∧ w.heap[b]? = some (.cells vs T (0, 0)) ∧ vs.size = s.size ∧ (fits s v = true ∧ arrC s cap len) ∧ HC g loc v vs.toList
  | .grow s xs => (loc o = some .nil ∧ xs = []) ∨ ∃ b cap T cs, loc o = some (.at b cap xs.length (.arr xs.length s)) ∧ w.heap[b]? = some (.cells cs T (0, 0)) ∧ cap * s.size ≤ cs.size ∧
      xs.length ≤ min cap 9223372036854775807 ∧ ∀ j, j < xs.length → Rel g s (xs.getD j .Z) (chunk cs.toList (j * s.size) s.size)
  | .loop st => ∃ b r, loc o = some (.loop b r) ∧ w.heap[b]? = some (.loop (st.at r))
  | .map ks vs es => ∃ b arr, loc o = some (.obj b) ∧ w.heap[b]? = some (.map arr es.length) ∧ EntR g ks vs 0 es arr.toList
  | .iter om since last seen => ∃ b bm, loc o = some (.obj b) ∧ loc om = some (.obj bm) ∧ w.heap[b]? = some (.mapIter (some bm) since seen.reverse.toArray last) ∧ (seen ≠ [] → 1 ≤ last)
  | .vec fs => ∃ b T vs, loc o = some (.at b fs.length fs.length (.arr fs.length .ref)) ∧ w.heap[b]? = some (.cells vs T (0, 0)) ∧ HCs g loc (List.replicate fs.length .ref) fs vs.toList
  | .froz s xs => (loc o = some .nil ∧ xs = []) ∨ ∃ b cap T cs, loc o = some (.at b cap xs.length (.arr xs.length s)) ∧ g b = some (.cells cs T (0, 0)) ∧ cap * s.size ≤ cs.size ∧
      xs.length ≤ min cap 9223372036854775807 ∧ ∀ j, j < xs.length → Rel g s (xs.getD j .Z) (chunk cs.toList (j * s.size) s.size)
  | .dead => True

def lk {α : Type} (l : List (Nat × α)) (n : Nat) : Option α :=
  @List.rec (Nat × α) (fun _ => Option α) none (fun p _ ih => match p with
    | (k, v) => match Nat.beq k n with
      | true => some v
      | false => ih) l

theorem lk_same {α : Type} (k : Nat) (v : α) (l : List (Nat × α)) : lk ((k, v) :: l) k = some v := by simp [lk]
theorem lk_other {α : Type} {k n : Nat} (h : k ≠ n) (v : α) (l : List (Nat × α)) : lk ((k, v) :: l) n = lk l n := by
  have : Nat.beq k n = false := Bool.eq_false_iff.2 fun hh => h (Nat.eq_of_beq_eq_true hh)
  simp [lk, this]
theorem lk_cons {α : Type} (k n : Nat) (v : α) (l : List (Nat × α)) : lk ((k, v) :: l) n = if k = n then some v else lk l n := by
  by_cases h : k = n
  · subst h; rw [lk_same]; simp
  · rw [lk_other h]; simp [h]

abbrev Hp := List (Nat × VO)

/-- Where an account begins: the blocks that lie there, and those that one may speak of. -/
structure Base where
  heap : Array Obj
  gh : Ghost
  os : Os
  output : Array (Nat × ByteArray)
  /-- Blocks that lie there and may be written all the same. -/
  wr : Nat → Bool

/-- What the objects say of a world that grew out of the world w0. -/
structure HeapRel (w0 : Base) (hp : Hp) (g : Ghost) (loc : Loc) (w : World) : Prop where
  obj : ∀ o vo, lk hp o = some vo → ORel g loc w o vo
  inj : ∀ o o' vo vo' b x x', lk hp o = some vo → lk hp o' = some vo' → vo.live = true → vo'.live = true → loc o = some x → loc o' = some x' → x.blk = some b → x'.blk = some b → o = o'
  ghost : ∀ b x, g b = some x → w.heap[b]? = some x
  sep : ∀ o vo b x, lk hp o = some vo → vo.live = true → loc o = some x → x.blk = some b → g b = none
  low : ∀ o vo b x, lk hp o = some vo → vo.live = true → loc o = some x → x.blk = some b → w0.wr b = true ∨ w0.heap.size ≤ b
  ext : ∀ b, b < w0.heap.size → w0.wr b = false → w.heap[b]? = w0.heap[b]?
  size : w0.heap.size ≤ w.heap.size
  old : ∀ b x, g b = some x → b < w0.heap.size → w0.wr b = false → w0.gh b = some x
  still : w.os = w0.os ∧ w.output = w0.output

/-- The world with whatever blocks behind it, and nothing else changed. -/
def ExtAll (w w' : World) : Prop := w.heap.size ≤ w'.heap.size ∧ (∀ b, b < w.heap.size → w'.heap[b]? = w.heap[b]?) ∧ w'.os = w.os ∧ w'.output = w.output

theorem ExtAll.refl (w : World) : ExtAll w w := ⟨Nat.le_refl _, fun _ _ => rfl, rfl, rfl⟩
theorem ExtAll.trans {a b c : World} (h : ExtAll a b) (k : ExtAll b c) : ExtAll a c :=
  ⟨Nat.le_trans h.1 k.1, fun x hx => by rw [k.2.1 x (Nat.lt_of_lt_of_le hx h.1), h.2.1 x hx], k.2.2.1.trans h.2.2.1, k.2.2.2.trans h.2.2.2⟩
theorem ExtAll.get {w w' : World} (h : ExtAll w w') {b : Nat} {x : Obj} (hb : w.heap[b]? = some x) : w'.heap[b]? = some x := by
  have : b < w.heap.size := (Array.getElem?_eq_some_iff.1 hb).1
  rw [h.2.1 b this, hb]

theorem ORel.monoC {g g' : Ghost} {loc loc' : Loc} {w w' : World} {o : Nat} {vo : VO} (hg : g.leC g') (hl : loc.le loc')
    (hw : ∀ b x y, loc o = some x → x.blk = some b → w.heap[b]? = some y → w'.heap[b]? = some y) (h : ORel g loc w o vo) : ORel g' loc' w' o vo := by
  cases vo with
  | box s v =>
    obtain ⟨b, cap, len, T, vs, h1, h2, h3, h4⟩ := h
    exact ⟨b, cap, len, T, vs, hl _ _ h1, hw _ _ _ h1 rfl h2, h3, h4.1, h4.2.monoC hg hl⟩
  | grow s xs =>
    rcases h with ⟨h1, h2⟩ | ⟨b, cap, T, cs, h1, h2, h3, h4, h5⟩
    · exact .inl ⟨hl _ _ h1, h2⟩
    · exact .inr ⟨b, cap, T, cs, hl _ _ h1, hw _ _ _ h1 rfl h2, h3, h4, fun j hj => (h5 j hj).monoC hg⟩
  | loop st =>
    obtain ⟨b, r, h1, h2⟩ := h
    exact ⟨b, r, hl _ _ h1, hw _ _ _ h1 rfl h2⟩
  | map ks vs es =>
    obtain ⟨b, arr, h1, h2, h3⟩ := h
    exact ⟨b, arr, hl _ _ h1, hw _ _ _ h1 rfl h2, h3.monoC hg⟩
  | iter om since last seen =>
    obtain ⟨b, bm, h1, h2, h3, h4⟩ := h
    exact ⟨b, bm, hl _ _ h1, hl _ _ h2, hw _ _ _ h1 rfl h3, h4⟩
  | vec fs =>
    obtain ⟨b, T, vs, h1, h2, h3⟩ := h
    exact ⟨b, T, vs, hl _ _ h1, hw _ _ _ h1 rfl h2, h3.monoC hg hl⟩
  | froz s xs =>
    rcases h with ⟨h1, h2⟩ | ⟨b, cap, T, cs, h1, h2, h3, h4, h5⟩
    · exact .inl ⟨hl _ _ h1, h2⟩
    · exact .inr ⟨b, cap, T, cs, hl _ _ h1, hg _ _ _ _ h2, h3, h4, fun j hj => (h5 j hj).monoC hg⟩
  | dead => trivial

theorem ORel.mono {g g' : Ghost} {loc loc' : Loc} {w w' : World} {o : Nat} {vo : VO} (hg : g.le g') (hl : loc.le loc')
    (hw : ∀ b x y, loc o = some x → x.blk = some b → w.heap[b]? = some y → w'.heap[b]? = some y) (h : ORel g loc w o vo) : ORel g' loc' w' o vo := h.monoC hg.c hl hw

/-- A live object's block lies in the world. -/
theorem ORel.blk_lt {g : Ghost} {loc : Loc} {w : World} {o : Nat} {vo : VO} (h : ORel g loc w o vo) (hl : vo.live = true) {x : Place} {b : Nat} (hx : loc o = some x) (hb : x.blk = some b) : b < w.heap.size := by
  cases vo with
  | box s v =>
    obtain ⟨b', c', l', T, vs, k1, k2, _⟩ := h
    rw [hx] at k1; simp only [Option.some.injEq] at k1
    subst k1
    simp only [Place.blk, Option.some.injEq] at hb
    subst hb
    exact (Array.getElem?_eq_some_iff.1 k2).1
  | grow s xs =>
    rcases h with ⟨k1, _⟩ | ⟨b', c', T, cs, k1, k2, _⟩
    · rw [hx] at k1; simp only [Option.some.injEq] at k1; subst k1; simp [Place.blk] at hb
    · rw [hx] at k1; simp only [Option.some.injEq] at k1
      subst k1
      simp only [Place.blk, Option.some.injEq] at hb
      subst hb
      exact (Array.getElem?_eq_some_iff.1 k2).1
  | loop st =>
    obtain ⟨b', r, k1, k2⟩ := h
    rw [hx] at k1; simp only [Option.some.injEq] at k1
    subst k1
    simp only [Place.blk, Option.some.injEq] at hb
    subst hb
    exact (Array.getElem?_eq_some_iff.1 k2).1
  | map ks vs es =>
    obtain ⟨b', arr, k1, k2, _⟩ := h
    rw [hx] at k1; simp only [Option.some.injEq] at k1
    subst k1
    simp only [Place.blk, Option.some.injEq] at hb
    subst hb
    exact (Array.getElem?_eq_some_iff.1 k2).1
  | iter om since last seen =>
    obtain ⟨b', bm, k1, _, k2, _⟩ := h
    rw [hx] at k1; simp only [Option.some.injEq] at k1
    subst k1
    simp only [Place.blk, Option.some.injEq] at hb
    subst hb
    exact (Array.getElem?_eq_some_iff.1 k2).1
  | vec fs =>
    obtain ⟨b', T, vs, k1, k2, _⟩ := h
    rw [hx] at k1; simp only [Option.some.injEq] at k1
    subst k1
    simp only [Place.blk, Option.some.injEq] at hb
    subst hb
    exact (Array.getElem?_eq_some_iff.1 k2).1
  | froz s xs => simp [VO.live] at hl
  | dead => simp [VO.live] at hl

section
variable {w0 : Base} {hp : Hp} {nx : Nat} {g g' : Ghost} {loc : Loc} {w w' : World}

/-- The world has grown; more of the new blocks may be ghost. -/
theorem HeapRel.grown (H : HeapRel w0 hp g loc w) (he : ExtAll w w') (hg : g.le g') (hnew : ∀ b x, g' b = some x → g b = some x ∨ w.heap.size ≤ b)
    (hgw : ∀ b x, g' b = some x → w'.heap[b]? = some x) : HeapRel w0 hp g' loc w' where
  obj := fun o vo h => (H.obj o vo h).mono hg (Loc.le_refl _) fun b x y _ _ hx => he.get hx
  inj := H.inj
  ghost := hgw
  sep := by
    intro o vo b x h1 h2 h3 h3b
    have h4 := H.sep o vo b x h1 h2 h3 h3b
    cases hb : g' b with
    | none => rfl
    | some y =>
      rcases hnew b y hb with h5 | h5
      · rw [h4] at h5; cases h5
      · have := (H.obj o vo h1).blk_lt h2 h3 h3b
        omega
  low := H.low
  ext := fun b hb hwr => by rw [he.2.1 b (Nat.lt_of_lt_of_le hb H.size)]; exact H.ext b hb hwr
  size := Nat.le_trans H.size he.1
  old := by
    intro b x hb hlt hwr
    rcases hnew b x hb with h | h
    · exact H.old b x h hlt hwr
    · have := H.size; omega
  still := ⟨he.2.2.1.trans H.still.1, he.2.2.2.trans H.still.2⟩

def Loc.upd (loc : Loc) (o : Nat) (x : Place) : Loc := fun k => if k = o then some x else loc k

theorem Loc.le_upd {loc : Loc} {o : Nat} {x : Place} (h : loc o = none) : loc.le (loc.upd o x) := by
  intro k y hk
  unfold Loc.upd
  split
  · rename_i e; subst e; rw [h] at hk; cases hk
  · exact hk

theorem Loc.upd_same {loc : Loc} {o : Nat} {x : Place} : (loc.upd o x) o = some x := by simp [Loc.upd]
theorem Loc.upd_other {loc : Loc} {o k : Nat} {x : Place} (h : k ≠ o) : (loc.upd o x) k = loc k := by simp [Loc.upd, h]

theorem heap_alloc_new (w : World) (o : Obj) : (w.alloc o).heap[w.heap.size]? = some o := by
  show (w.heap.push o)[w.heap.size]? = some o
  simp
theorem ExtAll.alloc (w : World) (o : Obj) : ExtAll w (w.alloc o) :=
  ⟨by simp, (fun b hb => by show (w.heap.push o)[b]? = _; rw [Array.getElem?_push_lt hb]; simp [hb]), rfl, rfl⟩

/-- A new object at a place that is either none or a block that was not there. -/
theorem HeapRel.new (H : HeapRel w0 hp g loc w) (hn : loc nx = none) (he : ExtAll w w') (x : Place) (vo : VO) (hx : ∀ b, x.blk = some b → w.heap.size ≤ b)
    (hO : ORel g (loc.upd nx x) w' nx vo) : HeapRel w0 ((nx, vo) :: hp) g (loc.upd nx x) w' where
  obj := by
    intro o vo' h
    rw [lk_cons] at h
    split at h
    · rename_i e; subst e
      simp only [Option.some.injEq] at h; subst h
      exact hO
    · exact (H.obj o vo' h).mono (Ghost.le_refl _) (Loc.le_upd hn) fun _ _ _ _ _ hy => he.get hy
  inj := by
    intro o o' vo1 vo2 b y y' h1 h2 l1 l2 e1 e2 b1 b2
    rw [lk_cons] at h1 h2
    by_cases a1 : nx = o <;> by_cases a2 : nx = o'
    · rw [← a1, ← a2]
    · subst a1
      rw [Loc.upd_same] at e1
      simp only [Option.some.injEq] at e1; subst e1
      rw [if_neg a2] at h2
      rw [Loc.upd_other (fun e => a2 e.symm)] at e2
      have := (H.obj o' vo2 h2).blk_lt l2 e2 b2
      have := hx b b1
      omega
    · subst a2
      rw [Loc.upd_same] at e2
      simp only [Option.some.injEq] at e2; subst e2
      rw [if_neg a1] at h1
      rw [Loc.upd_other (fun e => a1 e.symm)] at e1
      have := (H.obj o vo1 h1).blk_lt l1 e1 b1
      have := hx b b2
      omega
    · rw [if_neg a1] at h1
      rw [if_neg a2] at h2
      rw [Loc.upd_other (fun e => a1 e.symm)] at e1
      rw [Loc.upd_other (fun e => a2 e.symm)] at e2
      exact H.inj o o' vo1 vo2 b y y' h1 h2 l1 l2 e1 e2 b1 b2
  ghost := fun b y h => he.get (H.ghost b y h)
  sep := by
    intro o vo' b y h1 h2 h3 h4
    rw [lk_cons] at h1
    by_cases a : nx = o
    · subst a
      rw [Loc.upd_same] at h3
      simp only [Option.some.injEq] at h3; subst h3
      cases hb : g b with
      | none => rfl
      | some z =>
        have := (Array.getElem?_eq_some_iff.1 (H.ghost b z hb)).1
        have := hx b h4
        omega
    · rw [if_neg a] at h1
      rw [Loc.upd_other (fun e => a e.symm)] at h3
      exact H.sep o vo' b y h1 h2 h3 h4
  low := by
    intro o vo' b y h1 h2 h3 h4
    rw [lk_cons] at h1
    by_cases a : nx = o
    · subst a
      rw [Loc.upd_same] at h3
      simp only [Option.some.injEq] at h3; subst h3
      have := H.size
      have := hx b h4
      right; omega
    · rw [if_neg a] at h1
      rw [Loc.upd_other (fun e => a e.symm)] at h3
      exact H.low o vo' b y h1 h2 h3 h4
  ext := fun b hb hwr => by rw [he.2.1 b (Nat.lt_of_lt_of_le hb H.size)]; exact H.ext b hb hwr
  size := Nat.le_trans H.size he.1
  old := H.old
  still := ⟨he.2.2.1.trans H.still.1, he.2.2.2.trans H.still.2⟩

/-- An object is replaced: its block alone may have turned. -/
theorem HeapRel.set (H : HeapRel w0 hp g loc w) {o : Nat} {vo vo' : VO} {b : Nat} {x : Place} (ho : lk hp o = some vo) (hlive : vo.live = true) (hb : loc o = some x) (hxb : x.blk = some b)
    (hsz : w'.heap.size = w.heap.size) (hw : ∀ k, k ≠ b → w'.heap[k]? = w.heap[k]?) (hst : w'.os = w.os ∧ w'.output = w.output) (hO : ORel g loc w' o vo') :
    HeapRel w0 ((o, vo') :: hp) g loc w' where
  obj := by
    intro k vk h
    rw [lk_cons] at h
    split at h
    · rename_i e; subst e
      simp only [Option.some.injEq] at h; subst h
      exact hO
    · rename_i hne
      by_cases hl : vk.live = true
      · refine (H.obj k vk h).mono (Ghost.le_refl _) (Loc.le_refl _) fun b' x' y hb' hxb' hy => ?_
        rw [hw b' fun e => hne (by subst e; exact H.inj o k vo vk b' x x' ho h hlive hl hb hb' hxb hxb')]
        exact hy
      · cases vk with
        | dead => trivial
        | froz s xs => exact H.obj k _ h
        | _ => simp [VO.live] at hl
  inj := by
    intro o1 o2 vo1 vo2 b1 c1 c2 h1 h2 l1 l2 e1 e2 f1 f2
    rw [lk_cons] at h1 h2
    by_cases a1 : o = o1 <;> by_cases a2 : o = o2
    · rw [← a1, ← a2]
    · rw [if_neg a2] at h2; subst a1
      exact H.inj o o2 vo vo2 b1 c1 c2 ho h2 hlive l2 e1 e2 f1 f2
    · rw [if_neg a1] at h1; subst a2
      exact H.inj o1 o vo1 vo b1 c1 c2 h1 ho l1 hlive e1 e2 f1 f2
    · rw [if_neg a1] at h1
      rw [if_neg a2] at h2
      exact H.inj o1 o2 vo1 vo2 b1 c1 c2 h1 h2 l1 l2 e1 e2 f1 f2
  ghost := by
    intro k y h
    have hne : k ≠ b := by
      intro e; subst e
      rw [H.sep o vo k x ho hlive hb hxb] at h; cases h
    rw [hw k hne]; exact H.ghost k y h
  sep := by
    intro k vk b' c h1 h2 h3 h4
    rw [lk_cons] at h1
    by_cases a : o = k
    · subst a
      exact H.sep o vo b' c ho hlive h3 h4
    · rw [if_neg a] at h1
      exact H.sep k vk b' c h1 h2 h3 h4
  low := by
    intro k vk b' c h1 h2 h3 h4
    rw [lk_cons] at h1
    by_cases a : o = k
    · subst a
      exact H.low o vo b' c ho hlive h3 h4
    · rw [if_neg a] at h1
      exact H.low k vk b' c h1 h2 h3 h4
  ext := by
    intro k hk hwr
    have h1 := H.low o vo b x ho hlive hb hxb
    have hne : k ≠ b := by
      rintro rfl
      rcases h1 with h1 | h1
      · rw [hwr] at h1; cases h1
      · omega
    rw [hw k hne]; exact H.ext k hk hwr
  size := by rw [hsz]; exact H.size
  old := H.old
  still := ⟨hst.1.trans H.still.1, hst.2.trans H.still.2⟩

/-- A function that writes into an object of ours alone: what it was is what it is now; new blocks may have come. -/
theorem HeapRel.mut (H : HeapRel w0 hp g loc w) {o : Nat} {vo vo' : VO} {x : Place} (ho : lk hp o = some vo) (hlive : vo.live = true) (hx : loc o = some x)
    (hsz : w.heap.size ≤ w'.heap.size) (hw : ∀ k, k < w.heap.size → x.blk ≠ some k → w'.heap[k]? = w.heap[k]?) (hst : w'.os = w.os ∧ w'.output = w.output) (hO : ORel g loc w' o vo') :
    HeapRel w0 ((o, vo') :: hp) g loc w' where
  obj := by
    intro k vk h
    rw [lk_cons] at h
    split at h
    · rename_i e; subst e
      simp only [Option.some.injEq] at h; subst h
      exact hO
    · rename_i hne
      by_cases hl : vk.live = true
      · refine (H.obj k vk h).mono (Ghost.le_refl _) (Loc.le_refl _) fun b' x' y hb' hxb' hy => ?_
        have hlt : b' < w.heap.size := (Array.getElem?_eq_some_iff.1 hy).1
        rw [hw b' hlt fun e => hne (H.inj o k vo vk b' x x' ho h hlive hl hx hb' e hxb')]
        exact hy
      · cases vk with
        | dead => trivial
        | froz s xs => exact H.obj k _ h
        | _ => simp [VO.live] at hl
  inj := by
    intro o1 o2 vo1 vo2 b1 c1 c2 h1 h2 l1 l2 e1 e2 f1 f2
    rw [lk_cons] at h1 h2
    by_cases a1 : o = o1 <;> by_cases a2 : o = o2
    · rw [← a1, ← a2]
    · rw [if_neg a2] at h2; subst a1
      exact H.inj o o2 vo vo2 b1 c1 c2 ho h2 hlive l2 e1 e2 f1 f2
    · rw [if_neg a1] at h1; subst a2
      exact H.inj o1 o vo1 vo b1 c1 c2 h1 ho l1 hlive e1 e2 f1 f2
    · rw [if_neg a1] at h1
      rw [if_neg a2] at h2
      exact H.inj o1 o2 vo1 vo2 b1 c1 c2 h1 h2 l1 l2 e1 e2 f1 f2
  ghost := by
    intro k y h
    have h1 := H.ghost k y h
    rw [hw k (Array.getElem?_eq_some_iff.1 h1).1 fun e => by rw [H.sep o vo k x ho hlive hx e] at h; cases h]
    exact h1
  sep := by
    intro k vk b' c h1 h2 h3 h4
    rw [lk_cons] at h1
    by_cases a : o = k
    · subst a
      exact H.sep o vo b' c ho hlive h3 h4
    · rw [if_neg a] at h1
      exact H.sep k vk b' c h1 h2 h3 h4
  low := by
    intro k vk b' c h1 h2 h3 h4
    rw [lk_cons] at h1
    by_cases a : o = k
    · subst a
      exact H.low o vo b' c ho hlive h3 h4
    · rw [if_neg a] at h1
      exact H.low k vk b' c h1 h2 h3 h4
  ext := by
    intro k hk hwr
    rw [hw k (Nat.lt_of_lt_of_le hk H.size) fun e => by
      rcases H.low o vo k x ho hlive hx e with h1 | h1
      · rw [hwr] at h1; cases h1
      · omega]
    exact H.ext k hk hwr
  size := Nat.le_trans H.size hsz
  old := H.old
  still := ⟨hst.1.trans H.still.1, hst.2.trans H.still.2⟩

/-- An object is given up. -/
theorem HeapRel.kill (H : HeapRel w0 hp g loc w) (o : Nat) : HeapRel w0 ((o, .dead) :: hp) g loc w where
  obj := by
    intro k vk h
    rw [lk_cons] at h
    split at h
    · simp only [Option.some.injEq] at h; subst h; trivial
    · exact H.obj k vk h
  inj := by
    intro o1 o2 vo1 vo2 b1 c1 c2 h1 h2 l1 l2 e1 e2 f1 f2
    rw [lk_cons] at h1 h2
    by_cases a1 : o = o1
    · rw [if_pos a1] at h1; simp only [Option.some.injEq] at h1; subst h1; simp [VO.live] at l1
    by_cases a2 : o = o2
    · rw [if_pos a2] at h2; simp only [Option.some.injEq] at h2; subst h2; simp [VO.live] at l2
    rw [if_neg a1] at h1
    rw [if_neg a2] at h2
    exact H.inj o1 o2 vo1 vo2 b1 c1 c2 h1 h2 l1 l2 e1 e2 f1 f2
  ghost := H.ghost
  sep := by
    intro k vk b' c h1 h2 h3 h4
    rw [lk_cons] at h1
    by_cases a : o = k
    · rw [if_pos a] at h1; simp only [Option.some.injEq] at h1; subst h1; simp [VO.live] at h2
    · rw [if_neg a] at h1
      exact H.sep k vk b' c h1 h2 h3 h4
  low := by
    intro k vk b' c h1 h2 h3 h4
    rw [lk_cons] at h1
    by_cases a : o = k
    · rw [if_pos a] at h1; simp only [Option.some.injEq] at h1; subst h1; simp [VO.live] at h2
    · rw [if_neg a] at h1
      exact H.low k vk b' c h1 h2 h3 h4
  ext := H.ext
  size := H.size
  old := H.old
  still := H.still

theorem HeapRel.drew (H : HeapRel w0 hp g loc w) : HeapRel w0 hp g loc w.drew where
  obj := fun o vo h => (H.obj o vo h).mono (Ghost.le_refl _) (Loc.le_refl _) fun _ _ _ _ _ hx => hx
  inj := H.inj
  ghost := H.ghost
  sep := H.sep
  low := H.low
  ext := H.ext
  size := H.size
  old := H.old
  still := H.still
end

/-! ### Every cell holds one cell's value -/
mutual
theorem Rel.one {g : Ghost} : ∀ {s : Sh} {d : D} {vs : List Value}, Rel g s d vs → ∀ v ∈ vs, v.oneCell' = true
  | .int _, _, _, h => by simp only [Rel] at h; rw [h.1]; simp [Value.oneCell']
  | .bool, _, _, h => by simp only [Rel] at h; rw [h]; simp [Value.oneCell']
  | .str, _, _, h => by simp only [Rel] at h; rw [h.1]; simp [Value.oneCell']
  | .struct ss, _, _, h => by simp only [Rel] at h; exact Rels.one h
  | .arr n s, d, vs, h => by
    simp only [Rel] at h
    intro v hv
    obtain ⟨i, hi, rfl⟩ := List.getElem_of_mem hv
    rw [h.1] at hi
    by_cases hs : s.size = 0
    · rw [hs] at hi; omega
    · have hpos : 0 < s.size := by omega
      have hj : i / s.size < n := (Nat.div_lt_iff_lt_mul hpos).2 hi
      refine Rel.one (h.2 (i / s.size) hj) _ ?_
      have e : i = i / s.size * s.size + i % s.size := by rw [Nat.mul_comm]; exact (Nat.div_add_mod i s.size).symm
      have hm : i % s.size < s.size := Nat.mod_lt _ hpos
      have : (chunk vs (i / s.size * s.size) s.size)[i % s.size]? = vs[i]? := by
        simp only [chunk, List.getElem?_take, hm, if_true, List.getElem?_drop]
        rw [← e]
      exact List.mem_of_getElem? (by rw [this, List.getElem?_eq_getElem (by rw [h.1]; exact hi)])
  | .slice s, _, _, h => by simp only [Rel] at h; obtain ⟨a, cap, rfl, _⟩ := h; simp [Value.oneCell']
  | .ref, _, _, h => by simp only [Rel] at h
theorem Rels.one {g : Ghost} : ∀ {ss : List Sh} {i : Nat} {d : D} {vs : List Value}, Rels g ss i d vs → ∀ v ∈ vs, v.oneCell' = true
  | [], _, _, _, h => by simp only [Rels] at h; rw [h]; simp
  | s :: ss, i, d, vs, h => by
    simp only [Rels] at h
    intro v hv
    rw [← List.take_append_drop s.size vs] at hv
    rcases List.mem_append.1 hv with hv | hv
    · exact Rel.one h.2.1 v hv
    · exact Rels.one h.2.2 v hv
end

mutual
theorem HC.one {g : Ghost} {loc : Loc} : ∀ {h : HV} {vs : List Value}, HC g loc h vs → ∀ v ∈ vs, v.oneCell' = true
  | .dat s d, vs, h => by simp only [HC] at h; exact h.one
  | .ptr o r p s, vs, h => by simp only [HC] at h; obtain ⟨b, cap, len, off, _, _, _, rfl⟩ := h; simp [Value.oneCell']
  | .own o s, vs, h => by simp only [HC] at h; rcases h with ⟨_, a, rfl⟩ | ⟨b, cap, len, _, rfl⟩ <;> simp [Value.oneCell']
  | .sub o s i j, vs, h => by simp only [HC] at h; rcases h with ⟨_, _, _, a, rfl⟩ | ⟨b, cap, len, _, _, _, rfl⟩ <;> simp [Value.oneCell']
  | .gptr s d, vs, h => by simp only [HC] at h; obtain ⟨b, off, cs, T, fr, _, _, _, rfl⟩ := h; simp [Value.oneCell']
  | .fn f caps, vs, h => by
    simp only [HC] at h; obtain ⟨cs, _, rfl⟩ := h
    cases hb : Nat.ble bndN f
    · rw [fnV_f hb]; simp [Value.oneCell']
    · rw [fnV_b hb]; simp [Value.oneCell']
  | .st ss fs, vs, h => by simp only [HC] at h; exact HCs.one h
  | .cst v, vs, h => by simp only [HC] at h; obtain ⟨rfl, h⟩ := h; simpa using h
  | .yld o, vs, h => by simp only [HC] at h; obtain ⟨b, r, _, rfl⟩ := h; simp [Value.oneCell']
  | .mp o _ _, vs, h => by simp only [HC] at h; obtain ⟨b, _, rfl⟩ := h; simp [Value.oneCell']
  | .mit o, vs, h => by simp only [HC] at h; obtain ⟨b, _, rfl⟩ := h; simp [Value.oneCell']
  | .tup l, vs, h => by simp only [HC] at h
  | .und, vs, h => by simp only [HC] at h
theorem HCs.one {g : Ghost} {loc : Loc} : ∀ {ss : List Sh} {fs : List HV} {vs : List Value}, HCs g loc ss fs vs → ∀ v ∈ vs, v.oneCell' = true
  | [], [], _, h => by simp only [HCs] at h; rw [h]; simp
  | s :: ss, f :: fs, vs, h => by
    simp only [HCs] at h
    intro v hv
    rw [← List.take_append_drop s.size vs] at hv
    rcases List.mem_append.1 hv with hv | hv
    · exact HC.one h.2.1 v hv
    · exact HCs.one h.2.2 v hv
  | [], _ :: _, _, h => by simp only [HCs] at h
  | _ :: _, [], _, h => by simp only [HCs] at h
end
end Go.Vm

noncomputable section
namespace Go.Vm
open Go

def D.gets : D → List PS → D
  | d, [] => d
  | d, p :: ps => D.gets (d.getStep p) ps

def D.puts : Sh → D → List PS → D → D
  | _, _, [], v => v
  | s, d, p :: ps, v => match s.step p with
    | some (s', _) => d.putStep s p (D.puts s' (d.getStep p) ps v)
    | none => d

theorem chunk_chunk (vs : List Value) (o n o' n' : Nat) (h : o' + n' ≤ n) : chunk (chunk vs o n) o' n' = chunk vs (o + o') n' := by
  simp only [chunk, List.drop_take, List.take_take, List.drop_drop]
  congr 1; omega

theorem splice_chunk (vs us : List Value) (o n o' : Nat) (h : o' + us.length ≤ n) (h2 : o + n ≤ vs.length) :
    splice vs o (splice (chunk vs o n) o' us) = splice vs (o + o') us := by
  have hl : (chunk vs o n).length = n := chunk_length vs o n h2
  have hsl : (splice (chunk vs o n) o' us).length = n := by rw [splice_length _ _ _ (by omega), hl]
  simp only [splice] at hsl ⊢
  rw [hsl]
  apply List.ext_getElem?
  intro i
  simp only [chunk, List.getElem?_append, List.getElem?_take, List.getElem?_drop, List.length_append, List.length_take, List.length_drop]
  have e1 : min o vs.length = o := by omega
  have e2 : min n (vs.length - o) = n := by omega
  have e3 : min (o + o') vs.length = o + o' := by omega
  have e4 : min o' n = o' := by omega
  rw [e1, e2, e3, e4]
  by_cases c1 : i < o
  · simp [c1, show i < o + o' by omega, show i < o + (o' + us.length + (n - (o' + us.length))) by omega, show i < o + o' + us.length by omega]
  · by_cases c2 : i < o + o'
    · have : i - o < o' := by omega
      simp [c1, c2, this, show i - o < o' + us.length by omega, show i < o + o' + us.length by omega, show i < o + (o' + us.length + (n - (o' + us.length))) by omega, show i - o < n by omega, show o + (i - o) = i by omega]
    · by_cases c3 : i < o + o' + us.length
      · have : ¬ i - o < o' := by omega
        simp [c1, c2, c3, this, show i - o < o' + us.length by omega, show i < o + (o' + us.length + (n - (o' + us.length))) by omega]
        congr 1; omega
      · by_cases c4 : i < o + n
        · simp [c1, c3, show ¬ i - o < o' + us.length by omega, show i < o + (o' + us.length + (n - (o' + us.length))) by omega]
          rw [if_pos (by omega)]
          congr 1; omega
        · simp [c3, show ¬ i < o + (o' + us.length + (n - (o' + us.length))) by omega]
          congr 1; omega

theorem Rel.gets {g : Ghost} : ∀ {p : List PS} {s s' : Sh} {d : D} {vs : List Value} {off : Nat}, Rel g s d vs → s.navs p = some (s', off) → s.inPath p →
    Rel g s' (d.gets p) (chunk vs off s'.size) ∧ off + s'.size ≤ s.size
  | [], s, s', d, vs, off, h, hp, _ => by
    simp only [Sh.navs, Option.some.injEq, Prod.mk.injEq] at hp
    obtain ⟨rfl, rfl⟩ := hp
    have hl := h.length
    simp only [D.gets, chunk, List.drop_zero]
    rw [← hl, List.take_length]
    exact ⟨h, by omega⟩
  | p :: ps, s, s', d, vs, off, h, hp, hi => by
    simp only [Sh.navs] at hp
    split at hp
    · rename_i s1 o1 h1
      split at hp
      · rename_i s2 o2 h2
        simp only [Option.some.injEq, Prod.mk.injEq] at hp
        obtain ⟨rfl, rfl⟩ := hp
        simp only [Sh.inPath] at hi
        obtain ⟨a1, a2⟩ := Rel.get h h1 hi.1
        obtain ⟨b1, b2⟩ := Rel.gets a1 h2 (hi.2 _ _ h1)
        refine ⟨?_, by omega⟩
        rw [chunk_chunk _ _ _ _ _ b2] at b1
        exact b1
      · cases hp
    · cases hp

theorem Rel.puts {g : Ghost} : ∀ {p : List PS} {s s' : Sh} {d v : D} {vs us : List Value} {off : Nat}, Rel g s d vs → s.navs p = some (s', off) → s.inPath p → Rel g s' v us →
    Rel g s (D.puts s d p v) (splice vs off us)
  | [], s, s', d, v, vs, us, off, h, hp, _, hv => by
    simp only [Sh.navs, Option.some.injEq, Prod.mk.injEq] at hp
    obtain ⟨rfl, rfl⟩ := hp
    have h1 := h.length
    have h2 := hv.length
    have : splice vs 0 us = us := by
      simp only [splice, List.take_zero, List.nil_append, Nat.zero_add]
      rw [List.drop_of_length_le (by omega), List.append_nil]
    rw [this]; exact hv
  | p :: ps, s, s', d, v, vs, us, off, h, hp, hi, hv => by
    simp only [Sh.navs] at hp
    split at hp
    · rename_i s1 o1 h1
      split at hp
      · rename_i s2 o2 h2
        simp only [Option.some.injEq, Prod.mk.injEq] at hp
        obtain ⟨rfl, rfl⟩ := hp
        simp only [Sh.inPath] at hi
        obtain ⟨a1, a2⟩ := Rel.get h h1 hi.1
        have b := Rel.gets a1 h2 (hi.2 _ _ h1)
        have c := Rel.puts a1 h2 (hi.2 _ _ h1) hv
        have e := Rel.putStep h h1 hi.1 c
        rw [splice_chunk _ _ _ _ _ (by rw [hv.length]; exact b.2) (by rw [h.length]; exact a2)] at e
        simp only [D.puts, h1]
        exact e
      · cases hp
    · cases hp

/-! ### Values -/

def HV.getP : HV → List PS → Sh → HV
  | .dat _ d, p, s => .dat s (d.gets p)
  | h, [], _ => h
  | .st _ fs, .fld i :: ps, s => match fs[i]? with
    | some f => HV.getP f ps s
    | none => .und
  | _, _, _ => .und

def datFields : List Sh → Nat → D → List HV
  | [], _, _ => []
  | s :: ss, i, d => .dat s (d.nth i) :: datFields ss (i + 1) d

def HV.putP : HV → List PS → HV → Option HV
  | _, [], v => some v
  | h, p :: ps, v => match h with
    | .dat s d => match v with
      | .dat _ e => some (.dat s (D.puts s d (p :: ps) e))
      | v => match s, p with
        | .struct ss, .fld i => match ss[i]? with
          | some s1 => match HV.putP (.dat s1 (d.nth i)) ps v with
            | some f => some (.st ss ((datFields ss 0 d).set i f))
            | none => none
          | none => none
        | _, _ => none
    | .st ss fs => match p with
      | .fld i => match fs[i]? with
        | some f => match HV.putP f ps v with
          | some f' => some (.st ss (fs.set i f'))
          | none => none
        | none => none
      | _ => none
    | _ => none

section
variable {g : Ghost} {loc : Loc}

theorem HC.length : ∀ {s : Sh} {h : HV} {vs : List Value}, fits s h = true → HC g loc h vs → (vs.length = s.size) 
  | s, .dat s' d, vs, hf, h => by
    simp only [fits] at hf
    simp only [HC] at h
    rw [h.length, Sh.beq_eq hf]
  | .struct ss, .st ss' fs, vs, hf, h => by
    simp only [fits, Bool.and_eq_true] at hf
    simp only [HC] at h
    rw [Sh.beqs_eq hf.1] at h
    have : ∀ {ss : List Sh} {fs : List HV} {vs : List Value}, HCs g loc ss fs vs → vs.length = Sh.sizes ss := by
      intro ss
      induction ss with
      | nil => intro fs vs h; cases fs <;> simp_all [HCs, Sh.sizes]
      | cons s ss ih =>
        intro fs vs h
        cases fs with
        | nil => simp [HCs] at h
        | cons f fs =>
          simp only [HCs] at h
          have := ih h.2.2
          simp only [List.length_drop] at this
          simp only [Sh.sizes]; omega
    simpa [Sh.size] using this h
  | s, .ptr o r p t, vs, hf, h => by
    simp [fits] at hf; simp only [HC] at h
    obtain ⟨b, cap, len, off, _, _, _, rfl⟩ := h
    simp [hf.1]
  | s, .own o t, vs, hf, h => by
    simp [fits] at hf; simp only [HC] at h
    rcases h with ⟨_, _, rfl⟩ | ⟨b, cap, len, _, rfl⟩ <;> simp [hf.1]
  | s, .sub o t i j, vs, hf, h => by
    simp [fits] at hf; simp only [HC] at h
    rcases h with ⟨_, _, _, _, rfl⟩ | ⟨b, cap, len, _, _, _, rfl⟩ <;> simp [hf.1]
  | s, .gptr t d, vs, hf, h => by
    simp [fits] at hf; simp only [HC] at h
    obtain ⟨b, off, cs, T, fr, _, _, _, rfl⟩ := h
    simp [hf.1]
  | s, .fn f caps, vs, hf, h => by
    simp [fits] at hf; simp only [HC] at h
    obtain ⟨cs, _, rfl⟩ := h
    simp [hf.1]
  | s, .cst v, vs, hf, h => by
    simp [fits] at hf; simp only [HC] at h
    obtain ⟨rfl, _⟩ := h
    simp [hf.1]
  | s, .yld o, vs, hf, h => by
    simp [fits] at hf; simp only [HC] at h
    obtain ⟨b, r, _, rfl⟩ := h
    simp [hf.1]
  | s, .mp o _ _, vs, hf, h => by
    simp [fits] at hf; simp only [HC] at h
    obtain ⟨b, _, rfl⟩ := h
    simp [hf.1]
  | s, .mit o, vs, hf, h => by
    simp [fits] at hf; simp only [HC] at h
    obtain ⟨b, _, rfl⟩ := h
    simp [hf.1]
  | s, .tup l, vs, hf, h => by simp [HC] at h
  | s, .und, vs, hf, h => by simp [HC] at h
  | .int _, .st _ _, vs, hf, h => by simp [fits] at hf
  | .bool, .st _ _, vs, hf, h => by simp [fits] at hf
  | .str, .st _ _, vs, hf, h => by simp [fits] at hf
  | .arr _ _, .st _ _, vs, hf, h => by simp [fits] at hf
  | .slice _, .st _ _, vs, hf, h => by simp [fits] at hf
  | .ref, .st _ _, vs, hf, h => by simp [fits] at hf

theorem fits_agg {s : Sh} {h : HV} (hf : fits s h = true) : h.agg = s.agg := by
  cases h with
  | dat s' d => simp only [fits] at hf; rw [← Sh.beq_eq hf]; rfl
  | st ss fs => cases s <;> simp_all [fits, HV.agg, Sh.agg]
  | tup l => cases s <;> simp [fits] at hf
  | und => cases s <;> simp [fits] at hf
  | _ => cases s <;> simp_all [fits, HV.agg, Sh.agg]

theorem HCs.get : ∀ {ss : List Sh} {fs : List HV} {vs : List Value} (i : Nat) {s : Sh} {f : HV}, HCs g loc ss fs vs → ss[i]? = some s → fs[i]? = some f →
    HC g loc f (chunk vs (Sh.sizes (ss.take i)) s.size) ∧ Sh.sizes (ss.take i) + s.size ≤ vs.length
  | [], fs, _, i, _, _, _, hs, _ => by simp at hs
  | _ :: _, [], _, i, _, _, _, _, hf => by simp at hf
  | s0 :: ss, f0 :: fs, vs, 0, s, f, h, hs, hf => by
    simp only [HCs] at h
    simp at hs hf
    subst hs; subst hf
    simp only [List.take_zero, Sh.sizes, chunk, List.drop_zero]
    exact ⟨h.2.1, by omega⟩
  | s0 :: ss, f0 :: fs, vs, i + 1, s, f, h, hs, hf => by
    simp only [HCs] at h
    obtain ⟨h1, h2⟩ := HCs.get i h.2.2 (by simpa using hs) (by simpa using hf)
    simp only [List.length_drop] at h2
    simp only [List.take_succ_cons, Sh.sizes]
    refine ⟨?_, by omega⟩
    simpa [chunk, List.drop_drop] using h1

theorem HCs.put {s : Sh} {f : HV} {us : List Value} (hl : us.length = s.size) (hv : HC g loc f us) : ∀ {ss : List Sh} {fs : List HV} {vs : List Value} (i : Nat), HCs g loc ss fs vs → ss[i]? = some s → i < fs.length →
    HCs g loc ss (fs.set i f) (splice vs (Sh.sizes (ss.take i)) us)
  | [], fs, _, i, _, hs, _ => by simp at hs
  | _ :: _, [], _, i, _, _, hf => by simp at hf
  | s0 :: ss, f0 :: fs, vs, 0, h, hs, hf => by
    simp only [HCs, List.set_cons_zero] at h ⊢
    simp at hs
    subst hs
    simp only [List.take_zero, Sh.sizes]
    have es : splice vs 0 us = us ++ vs.drop us.length := by simp [splice]
    refine ⟨?_, ?_, ?_⟩
    · rw [splice_length _ _ _ (by omega)]; exact h.1
    · rw [es, List.take_left' hl]; exact hv
    · rw [es, List.drop_left' hl, hl]; exact h.2.2
  | s0 :: ss, f0 :: fs, vs, i + 1, h, hs, hf => by
    simp only [HCs, List.set_cons_succ] at h ⊢
    have hs' : ss[i]? = some s := by simpa using hs
    have hf' : i < fs.length := by simpa using hf
    obtain ⟨_, h2⟩ := HCs.get i h.2.2 hs' (List.getElem?_eq_getElem hf')
    simp only [List.length_drop] at h2
    simp only [List.take_succ_cons, Sh.sizes]
    have hlen : s0.size + Sh.sizes (ss.take i) + us.length ≤ vs.length := by omega
    refine ⟨?_, ?_, ?_⟩
    · rw [splice_length _ _ _ hlen]; exact h.1
    · have := chunk_splice_other vs us (s0.size + Sh.sizes (ss.take i)) 0 s0.size hlen (.inl (by omega))
      simp only [chunk, List.drop_zero] at this
      rw [this]; exact h.2.1
    · have e1 : (splice vs (s0.size + Sh.sizes (ss.take i)) us).drop s0.size = splice (vs.drop s0.size) (Sh.sizes (ss.take i)) us := by
        simp only [splice, List.append_assoc]
        rw [List.drop_append_of_le_length (by simp; omega), List.drop_take, List.drop_drop]
        have a1 : s0.size + Sh.sizes (ss.take i) - s0.size = Sh.sizes (ss.take i) := by omega
        have a2 : s0.size + (Sh.sizes (ss.take i) + us.length) = s0.size + Sh.sizes (ss.take i) + us.length := by omega
        rw [a1, a2]
      rw [e1]
      exact HCs.put hl hv i h.2.2 hs' hf'

theorem fitss_length : ∀ {ss : List Sh} {fs : List HV}, fitss ss fs = true → fs.length = ss.length
  | [], [], _ => rfl
  | s :: ss, f :: fs, h => by simp only [fitss, Bool.and_eq_true] at h; simp [fitss_length h.2]
  | [], _ :: _, h => by simp [fitss] at h
  | _ :: _, [], h => by simp [fitss] at h

theorem fitss_get : ∀ {ss : List Sh} {fs : List HV} {i : Nat} {s : Sh} {f : HV}, fitss ss fs = true → ss[i]? = some s → fs[i]? = some f → fits s f = true
  | [], _, i, _, _, _, hs, _ => by simp at hs
  | s :: ss, [], i, _, _, h, _, _ => by simp [fitss] at h
  | s0 :: ss, f0 :: fs, 0, s, f, h, hs, hf => by
    simp only [fitss, Bool.and_eq_true] at h; simp at hs hf; subst hs; subst hf; exact h.1
  | s0 :: ss, f0 :: fs, i + 1, s, f, h, hs, hf => by
    simp only [fitss, Bool.and_eq_true] at h
    exact fitss_get h.2 (by simpa using hs) (by simpa using hf)

theorem fitss_set : ∀ {ss : List Sh} {fs : List HV} {i : Nat} {s : Sh} {f : HV}, fitss ss fs = true → ss[i]? = some s → fits s f = true → fitss ss (fs.set i f) = true
  | [], _, i, _, _, _, hs, _ => by simp at hs
  | s :: ss, [], i, _, _, h, _, _ => by simp [fitss] at h
  | s0 :: ss, f0 :: fs, 0, s, f, h, hs, hf => by
    simp only [fitss, Bool.and_eq_true, List.set_cons_zero] at h ⊢; simp at hs; subst hs; exact ⟨hf, h.2⟩
  | s0 :: ss, f0 :: fs, i + 1, s, f, h, hs, hf => by
    simp only [fitss, Bool.and_eq_true, List.set_cons_succ] at h ⊢
    exact ⟨h.1, fitss_set h.2 (by simpa using hs) hf⟩

mutual
theorem Sh.beq_refl : ∀ (s : Sh), Sh.beq s s = true
  | .int k => by simp [Sh.beq]
  | .bool => by simp [Sh.beq]
  | .str => by simp [Sh.beq]
  | .struct ss => by simp [Sh.beq, Sh.beqs_refl ss]
  | .arr n s => by simp [Sh.beq, Sh.beq_refl s]
  | .slice s => by simp [Sh.beq, Sh.beq_refl s]
  | .ref => by simp [Sh.beq]
theorem Sh.beqs_refl : ∀ (ss : List Sh), Sh.beqs ss ss = true
  | [] => by simp [Sh.beqs]
  | s :: ss => by simp [Sh.beqs, Sh.beq_refl s, Sh.beqs_refl ss]
end

theorem fitss_dat : ∀ (ss : List Sh) (i : Nat) (d : D), fitss ss (datFields ss i d) = true
  | [], _, _ => by simp [datFields, fitss]
  | s :: ss, i, d => by simp [datFields, fitss, fits, Sh.beq_refl, fitss_dat ss]

theorem HCs_dat : ∀ {ss : List Sh} {i : Nat} {d : D} {vs : List Value}, Rels g ss i d vs → HCs g loc ss (datFields ss i d) vs
  | [], _, _, _, h => by simp only [Rels] at h; simp only [datFields, HCs, h]
  | s :: ss, i, d, vs, h => by
    simp only [Rels] at h
    simp only [datFields, HCs, HC]
    exact ⟨h.1, h.2.1, HCs_dat h.2.2⟩

/-- A part of a value. -/
theorem HC.getP : ∀ {p : List PS} {r s : Sh} {h : HV} {vs : List Value} {off : Nat}, HC g loc h vs → fits r h = true → r.navs p = some (s, off) → r.inPath p → h.getP p s ≠ .und →
    HC g loc (h.getP p s) (chunk vs off s.size) ∧ fits s (h.getP p s) = true ∧ off + s.size ≤ r.size
  | p, r, s, .dat s' d, vs, off, h, hf, hp, hi, _ => by
    simp only [fits] at hf
    have := Sh.beq_eq hf
    subst this
    simp only [HC] at h
    obtain ⟨a, b⟩ := Rel.gets h hp hi
    simp only [HV.getP, HC, fits, Sh.beq_refl]
    exact ⟨a, trivial, b⟩
  | [], r, s, h, vs, off, hh, hf, hp, hi, hne => by
    simp only [Sh.navs, Option.some.injEq, Prod.mk.injEq] at hp
    obtain ⟨rfl, rfl⟩ := hp
    have hl := HC.length hf hh
    have e : chunk vs 0 r.size = vs := by simp only [chunk, List.drop_zero, ← hl, List.take_length]
    rw [e]
    cases h <;> simp_all [HV.getP, HC]
    rename_i s' d
    simp only [fits] at hf
    have := Sh.beq_eq hf
    subst this
    simp [D.gets, fits, Sh.beq_refl, hh]
  | .fld i :: ps, r, s, .st ss fs, vs, off, h, hf, hp, hi, hne => by
    cases r <;> simp only [fits, Bool.false_eq_true] at hf
    rename_i rs
    simp only [Bool.and_eq_true] at hf
    have := Sh.beqs_eq hf.1
    subst this
    simp only [HC] at h
    simp only [Sh.navs] at hp
    split at hp
    · rename_i s1 o1 h1
      simp only [Sh.step] at h1
      split at h1
      · rename_i s2 hs2
        simp only [Option.some.injEq, Prod.mk.injEq] at h1
        obtain ⟨rfl, rfl⟩ := h1
        split at hp
        · rename_i s3 o3 h3
          simp only [Option.some.injEq, Prod.mk.injEq] at hp
          obtain ⟨rfl, rfl⟩ := hp
          simp only [HV.getP] at hne ⊢
          cases hfi : fs[i]? with
          | none => simp [hfi] at hne
          | some f =>
            simp only [hfi] at hne ⊢
            obtain ⟨a1, a2⟩ := HCs.get i h hs2 hfi
            have hl : vs.length = Sh.sizes ss := by
              have := HC.length (g := g) (loc := loc) (s := .struct ss) (h := .st ss fs) (vs := vs) (by simp [fits, Sh.beqs_refl, hf.2]) (by simpa only [HC] using h)
              simpa [Sh.size] using this
            simp only [Sh.inPath, Sh.step, hs2] at hi
            obtain ⟨b1, b2, b3⟩ := HC.getP a1 (fitss_get hf.2 hs2 hfi) h3 (hi.2 _ _ rfl) hne
            rw [chunk_chunk _ _ _ _ _ b3] at b1
            refine ⟨b1, b2, ?_⟩
            simp only [Sh.size]; omega
        · cases hp
      · cases h1
    · cases hp
  | .idx i :: ps, r, s, .st ss fs, vs, off, h, hf, hp, hi, hne => by simp [HV.getP] at hne
  | p :: ps, r, s, .ptr .., vs, off, h, hf, hp, hi, hne => by simp [HV.getP] at hne
  | p :: ps, r, s, .own .., vs, off, h, hf, hp, hi, hne => by simp [HV.getP] at hne
  | p :: ps, r, s, .gptr .., vs, off, h, hf, hp, hi, hne => by simp [HV.getP] at hne
  | p :: ps, r, s, .sub .., vs, off, h, hf, hp, hi, hne => by simp [HV.getP] at hne
  | p :: ps, r, s, .fn .., vs, off, h, hf, hp, hi, hne => by simp [HV.getP] at hne
  | p :: ps, r, s, .tup .., vs, off, h, hf, hp, hi, hne => by simp [HV.getP] at hne
  | p :: ps, r, s, .cst .., vs, off, h, hf, hp, hi, hne => by simp [HV.getP] at hne
  | p :: ps, r, s, .yld .., vs, off, h, hf, hp, hi, hne => by simp [HV.getP] at hne
  | p :: ps, r, s, .mp .., vs, off, h, hf, hp, hi, hne => by simp [HV.getP] at hne
  | p :: ps, r, s, .mit .., vs, off, h, hf, hp, hi, hne => by simp [HV.getP] at hne
  | p :: ps, r, s, .und, vs, off, h, hf, hp, hi, hne => by simp [HV.getP] at hne
end
end Go.Vm

noncomputable section
namespace Go.Vm
open Go

section
variable {g : Ghost} {loc : Loc}

theorem datFields_get : ∀ (ss : List Sh) (k i : Nat) (d : D) (s : Sh), ss[i]? = some s → (datFields ss k d)[i]? = some (.dat s (d.nth (k + i)))
  | [], _, _, _, _, h => by simp at h
  | a :: ss, k, 0, d, s, h => by simp at h; simp [datFields, h]
  | a :: ss, k, i + 1, d, s, h => by
    simp only [datFields, List.getElem?_cons_succ]
    rw [datFields_get ss (k + 1) i d s (by simpa using h)]
    congr 3; omega

theorem HC.putP_field {ps : List PS} {s2 : Sh} {v : HV} {us vs : List Value} {o2 : Nat} {ss : List Sh} {fs : List HV} {i : Nat} {s1 : Sh} {f f' : HV}
    (ih : ∀ {f : HV} {vs : List Value} {f' : HV}, HC g loc f vs → fits s1 f = true → f.putP ps v = some f' → HC g loc f' (splice vs o2 us) ∧ fits s1 f' = true ∧ o2 + s2.size ≤ s1.size)
    (hul : us.length = s2.size) (hl : vs.length = Sh.sizes ss)
    (hcs : HCs g loc ss fs vs) (hfs : fitss ss fs = true) (hs : ss[i]? = some s1) (hfi : fs[i]? = some f) (hne : f.putP ps v = some f') :
    HC g loc (.st ss (fs.set i f')) (splice vs (Sh.sizes (ss.take i) + o2) us) ∧ fits (.struct ss) (.st ss (fs.set i f')) = true ∧ Sh.sizes (ss.take i) + o2 + s2.size ≤ (Sh.struct ss).size := by
  obtain ⟨a1, a2⟩ := HCs.get i hcs hs hfi
  have hff := fitss_get hfs hs hfi
  obtain ⟨b1, b2, b3⟩ := ih a1 hff hne
  have hlen : (splice (chunk vs (Sh.sizes (ss.take i)) s1.size) o2 us).length = s1.size := by
    rw [splice_length _ _ _ (by rw [chunk_length _ _ _ a2, hul]; exact b3), chunk_length _ _ _ a2]
  have hi2 : i < fs.length := (List.getElem?_eq_some_iff.1 hfi).1
  have c := HCs.put hlen b1 i hcs hs hi2
  rw [splice_chunk _ _ _ _ _ (by rw [hul]; exact b3) a2] at c
  refine ⟨by simp only [HC]; exact c, ?_, by simp only [Sh.size]; omega⟩
  simp only [fits, Sh.beqs_refl, Bool.true_and]
  exact fitss_set hfs hs b2

theorem HC.putP : ∀ {p : List PS} {r s : Sh} {h v h' : HV} {vs us : List Value} {off : Nat}, HC g loc h vs → fits r h = true → r.navs p = some (s, off) → r.inPath p →
    HC g loc v us → fits s v = true → h.putP p v = some h' → HC g loc h' (splice vs off us) ∧ fits r h' = true ∧ off + s.size ≤ r.size
  | [], r, s, h, v, h', vs, us, off, hh, hf, hp, _, hv, hfv, hne => by
    simp only [Sh.navs, Option.some.injEq, Prod.mk.injEq] at hp
    obtain ⟨rfl, rfl⟩ := hp
    have h1 := HC.length hf hh
    have h2 := HC.length hfv hv
    have : splice vs 0 us = us := by
      simp only [splice, List.take_zero, List.nil_append, Nat.zero_add]
      rw [List.drop_of_length_le (by omega), List.append_nil]
    rw [this]
    simp only [HV.putP, Option.some.injEq] at hne
    subst hne
    exact ⟨hv, hfv, by omega⟩
  | p :: ps, r, s, h, v, h', vs, us, off, hh, hf, hp, hi, hv, hfv, hne => by
    have hp0 := hp
    have hul := HC.length hfv hv
    have hvl := HC.length hf hh
    simp only [Sh.navs] at hp
    split at hp
    · rename_i s1 o1 h1
      split at hp
      · rename_i s2 o2 h2
        simp only [Option.some.injEq, Prod.mk.injEq] at hp
        obtain ⟨rfl, rfl⟩ := hp
        have hi0 := hi
        simp only [Sh.inPath] at hi
        have ih : ∀ {f : HV} {vs : List Value} {f' : HV}, HC g loc f vs → fits s1 f = true → f.putP ps v = some f' → HC g loc f' (splice vs o2 us) ∧ fits s1 f' = true ∧ o2 + s2.size ≤ s1.size :=
          fun a b c => HC.putP a b h2 (hi.2 _ _ h1) hv hfv c
        simp only [HV.putP] at hne
        split at hne
        · rename_i s' d
          simp only [fits] at hf
          have := Sh.beq_eq hf
          subst this
          split at hne
          · rename_i t e
            simp only [fits] at hfv
            have := Sh.beq_eq hfv
            subst this
            simp only [Option.some.injEq] at hne
            subst hne
            simp only [HC] at hh hv ⊢
            have c := Rel.puts hh hp0 hi0 hv
            exact ⟨c, by simp [fits, Sh.beq_refl], (Rel.gets hh hp0 hi0).2⟩
          · split at hne
            · rename_i ss i
              split at hne
              · rename_i s3 hs3
                split at hne
                · rename_i f hf3
                  simp only [Option.some.injEq] at hne
                  subst hne
                  simp only [Sh.step, hs3, Option.some.injEq, Prod.mk.injEq] at h1
                  obtain ⟨rfl, rfl⟩ := h1
                  simp only [HC, Rel] at hh
                  exact HC.putP_field ih hul (by simpa [Sh.size] using hvl) (HCs_dat hh) (fitss_dat _ 0 d) hs3 (by simpa using datFields_get ss 0 i d s3 hs3) hf3
                · cases hne
              · cases hne
            · cases hne
        · rename_i ss fs
          cases r <;> simp only [fits, Bool.false_eq_true] at hf
          rename_i rs
          simp only [Bool.and_eq_true] at hf
          have := Sh.beqs_eq hf.1
          subst this
          simp only [HC] at hh
          split at hne
          · rename_i i
            split at hne
            · rename_i f hfi
              split at hne
              · rename_i f' hf3
                simp only [Option.some.injEq] at hne
                subst hne
                simp only [Sh.step] at h1
                split at h1
                · rename_i s3 hs3
                  simp only [Option.some.injEq, Prod.mk.injEq] at h1
                  obtain ⟨rfl, rfl⟩ := h1
                  exact HC.putP_field ih hul (by simpa [Sh.size] using hvl) hh hf.2 hs3 hfi hf3
                · cases h1
              · cases hne
            · cases hne
          · cases hne
        · cases hne
      · cases hp
    · cases hp
end

/-! ### Zero values -/
mutual
def D0 : Sh → D
  | .int _ => .I 0
  | .bool => .B false
  | .str => .S ByteArray.empty
  | .struct fs => .L (D0s fs)
  | .arr _ s => .F (fun _ => D0 s)
  | .slice _ => .L []
  | .ref => .Z
def D0s : List Sh → List D
  | [] => []
  | s :: ss => D0 s :: D0s ss
end

mutual
/-- No part is a slice or something else that leads elsewhere. -/
def Sh.flat : Sh → Bool
  | .struct fs => Sh.flats fs
  | .arr _ s => s.flat
  | .slice _ | .ref => false
  | _ => true
def Sh.flats : List Sh → Bool
  | [] => true
  | s :: ss => s.flat && Sh.flats ss
end

/-- The zero value of a field. -/
def zf : Sh → HV
  | .slice _ => .cst (.slice none 0 0)
  | s => .dat s (D0 s)

/-- The zero value: what has slices in it is taken apart, so that they are known to be nil. -/
def H0 (z : Option Value) : Sh → HV
  | .slice _ => .cst (.slice none 0 0)
  | .struct ss => match Sh.flats ss with
    | true => .dat (.struct ss) (D0 (.struct ss))
    | false => .st ss (ss.map zf)
  | .ref => match z with
    | some v => .cst v
    | none => .und
  | s => .dat s (D0 s)

mutual
def zcells : Sh → List Value
  | .int k => [.int k 0]
  | .bool => [.bool false]
  | .str => [.string ByteArray.empty]
  | .struct fs => zcellss fs
  | .arr n s => (List.replicate n (zcells s)).flatten
  | .slice _ => [.slice none 0 0]
  | .ref => []
def zcellss : List Sh → List Value
  | [] => []
  | s :: ss => zcells s ++ zcellss ss
end

mutual
def Sh.data : Sh → Bool
  | .struct fs => Sh.datas fs
  | .arr _ s => s.data
  | .slice s => s.data
  | .ref => false
  | _ => true
def Sh.datas : List Sh → Bool
  | [] => true
  | s :: ss => s.data && Sh.datas ss
end

theorem kind_zero (k : IntKind) : k.min ≤ 0 ∧ 0 ≤ k.max := by cases k <;> decide

theorem flatten_chunk (n j : Nat) (l : List Value) (h : j < n) : chunk (List.replicate n l).flatten (j * l.length) l.length = l := by
  induction n generalizing j with
  | zero => omega
  | succ n ih =>
    rw [List.replicate_succ, List.flatten_cons]
    cases j with
    | zero => simp [chunk]
    | succ j =>
      have := ih j (by omega)
      rw [chunk] at this ⊢
      rw [Nat.add_mul, Nat.one_mul, Nat.add_comm (j * l.length), List.drop_length_add_append]
      exact this

theorem D0s_nth : ∀ (ss : List Sh) (i : Nat), (D0s ss).getD i .Z = match ss[i]? with | some s => D0 s | none => .Z
  | [], i => by simp [D0s]
  | s :: ss, 0 => by simp [D0s]
  | s :: ss, i + 1 => by simp only [D0s, List.getD_cons_succ, List.getElem?_cons_succ]; exact D0s_nth ss i

mutual
theorem Rel.zero (g : Ghost) : ∀ (s : Sh), s.data = true → Rel g s (D0 s) (zcells s)
  | .int k, _ => by simp only [Rel, D0, zcells, D.int]; exact ⟨trivial, kind_zero k⟩
  | .bool, _ => by simp only [Rel, D0, zcells, D.bool]
  | .str, _ => by simp only [Rel, D0, zcells, D.str]; exact ⟨trivial, by decide⟩
  | .struct ss, h => by
    simp only [Sh.data] at h
    simp only [Rel, D0, zcells]
    refine Rels.zero g ss h 0 _ fun j hj => ?_
    simp only [D.nth, Nat.zero_add]
    rw [D0s_nth]
    rw [List.getElem?_eq_getElem hj]
  | .arr n s, h => by
    simp only [Sh.data] at h
    have ih := Rel.zero g s h
    simp only [Rel, D0, zcells, D.nth]
    have hl := ih.length
    refine ⟨by simp [hl], fun j hj => ?_⟩
    rw [← hl, flatten_chunk _ _ _ hj]; exact ih
  | .slice s, _ => by simp only [Rel, D0, zcells, D.list]; exact ⟨none, 0, rfl, trivial, rfl⟩
  | .ref, h => by simp [Sh.data] at h
theorem Rels.zero (g : Ghost) : ∀ (ss : List Sh), Sh.datas ss = true → ∀ (i : Nat) (d : D), (∀ j (h : j < ss.length), d.nth (i + j) = D0 ss[j]) → Rels g ss i d (zcellss ss)
  | [], _, _, _, _ => by simp only [Rels, zcellss]
  | s :: ss, h, i, d, hd => by
    simp only [Sh.datas, Bool.and_eq_true] at h
    have ih := Rel.zero g s h.1
    have hl := ih.length
    simp only [Rels, zcellss]
    have e0 : d.nth i = D0 s := hd 0 (by simp)
    refine ⟨by simp; omega, ?_, ?_⟩
    · rw [e0, List.take_left' hl]; exact ih
    · rw [List.drop_left' hl]
      refine Rels.zero g ss h.2 (i + 1) d fun j hj => ?_
      have := hd (j + 1) (by simp; omega)
      simp only [List.getElem_cons_succ] at this
      rw [← this]; congr 1; omega
end

theorem HCs.zeroSt (g : Ghost) (loc : Loc) : ∀ (ss : List Sh), Sh.datas ss = true → HCs g loc ss (ss.map zf) (zcellss ss)
  | [], _ => by simp only [List.map_nil, HCs, zcellss]
  | s :: ss, h => by
    simp only [Sh.datas, Bool.and_eq_true] at h
    have ih := Rel.zero g s h.1
    have hl := ih.length
    simp only [List.map_cons, HCs, zcellss]
    refine ⟨by simp; omega, ?_, ?_⟩
    · rw [List.take_left' hl]
      cases s <;> simp only [zf, HC] <;> first | exact ih | exact ⟨rfl, rfl⟩
    · rw [List.drop_left' hl]; exact HCs.zeroSt g loc ss h.2

theorem fitss_zeroSt : ∀ (ss : List Sh), fitss ss (ss.map zf) = true
  | [] => by simp [fitss]
  | s :: ss => by
    simp only [List.map_cons, fitss, fitss_zeroSt ss, Bool.and_true]
    cases s <;> simp [zf, fits, Sh.beq, Sh.beq_refl, Sh.beqs_refl, Sh.size, Sh.agg]

/-- The zero value of a shape of data. -/
theorem HC.zero (g : Ghost) (loc : Loc) (z : Option Value) (s : Sh) (h : s.data = true) : HC g loc (H0 z s) (zcells s) ∧ fits s (H0 z s) = true := by
  cases s with
  | struct ss =>
    simp only [H0]
    split
    · simp only [HC, fits, Sh.beq_refl]; exact ⟨Rel.zero g _ h, trivial⟩
    · simp only [HC, fits, Sh.beqs_refl, fitss_zeroSt, Bool.and_true]
      exact ⟨HCs.zeroSt g loc ss (by simpa [Sh.data] using h), trivial⟩
  | slice s => simp [H0, HC, zcells, fits, Sh.size, Sh.agg, Value.oneCell']
  | ref => simp [Sh.data] at h
  | _ => simp only [H0, HC, fits, Sh.beq_refl]; exact ⟨Rel.zero g _ h, trivial⟩
end Go.Vm

noncomputable section
namespace Go.Vm
open Go

def TyOK (P : Program) (t : TypeId) (s : Sh) : Prop := ∃ i, P.info? t = some i ∧ i.size = s.size ∧ i.zero = some (mkV s.agg (zcells s)) ∧ i.bytes ≤ 65536

mutual
/-- A type of the program lies as this shape says. -/
def Lay (P : Program) : Sh → TypeId → Prop
  | .int k, t => TyOK P t (.int k) ∧ P.underlying t = some (.int k)
  | .bool, t => TyOK P t .bool ∧ P.underlying t = some .bool
  | .str, t => TyOK P t .str ∧ P.underlying t = some .string
  | .struct ss, t => TyOK P t (.struct ss) ∧ (∃ fs, P.underlying t = some (.struct fs) ∧ Lays P ss 0 fs.toList) ∧ P.eqGuardType P.depth t = false ∧ P.stoodInHeld t = false
  | .arr n s, t => TyOK P t (.arr n s) ∧ (∃ e, P.underlying t = some (.array n e) ∧ Lay P s e) ∧ P.eqGuardType P.depth t = false
  | .slice s, t => TyOK P t (.slice s) ∧ ∃ e, P.underlying t = some (.slice e) ∧ Lay P s e
  | .ref, _ => False
def Lays (P : Program) : List Sh → Nat → List Field → Prop
  | [], _, [] => True
  | s :: ss, off, f :: fs => f.offset = off ∧ f.name ≠ "_" ∧ 0 < s.size ∧ Lay P s f.type ∧ Lays P ss (off + s.size) fs
  | _, _, _ => False
end

/-- A type whose values are single cells that the evaluator does not look into (functions, pointers, maps): its zero value. -/
def RefLay (P : Program) (t : TypeId) (z : Value) : Prop :=
  (∃ i, P.info? t = some i ∧ i.size = 1 ∧ i.zero = some z) ∧ z.oneCell' = true ∧ ∃ d, P.underlying t = some d ∧ (match d with | .struct _ | .array _ _ => true | _ => false) = false

/-! ### A check by computation -/
def valB : Value → Value → Bool
  | .int k n, .int k' m => decide (k = k') && decide (n = m)
  | .bool a, .bool b => a == b
  | .string a, .string b => Nat.beq a.size 0 && Nat.beq b.size 0
  | .slice none 0 0, .slice none 0 0 => true
  | _, _ => false
def valsB : List Value → List Value → Bool
  | [], [] => true
  | a :: as, b :: bs => valB a b && valsB as bs
  | _, _ => false
def zeroB (v : Value) (s : Sh) : Bool := match s.agg, v with
  | true, .agg cs => valsB cs.toList (zcells s)
  | true, _ => false
  | false, v => match zcells s with
    | [z] => valB v z
    | _ => false

theorem size_zero_bytes {a b : ByteArray} (h1 : a.size = 0) (h2 : b.size = 0) : a = b := by
  cases a with | mk x => cases b with | mk y =>
  simp [ByteArray.size] at h1 h2
  simp [h1, h2]
theorem valB_eq {a b : Value} (h : valB a b = true) : a = b := by
  unfold valB at h
  split at h
  · simp only [Bool.and_eq_true, decide_eq_true_eq] at h; rw [h.1, h.2]
  · simp only [beq_iff_eq] at h; rw [h]
  · simp only [Bool.and_eq_true] at h; rw [size_zero_bytes (Nat.eq_of_beq_eq_true h.1) (Nat.eq_of_beq_eq_true h.2)]
  · rfl
  · cases h
theorem valsB_eq : ∀ {a b : List Value}, valsB a b = true → a = b
  | [], [], _ => rfl
  | a :: as, b :: bs, h => by simp only [valsB, Bool.and_eq_true] at h; rw [valB_eq h.1, valsB_eq h.2]
  | [], _ :: _, h => by simp [valsB] at h
  | _ :: _, [], h => by simp [valsB] at h
theorem zeroB_eq {v : Value} {s : Sh} (h : zeroB v s = true) : v = mkV s.agg (zcells s) := by
  unfold zeroB at h
  split at h
  · rename_i ha; rw [ha, ← valsB_eq h]; simp [mkV]
  · cases h
  · rename_i ha
    split at h
    · rename_i hz; rw [ha, hz, valB_eq h]; simp [mkV]
    · cases h

def tyB (P : Program) (t : TypeId) (s : Sh) : Bool := match P.info? t with
  | some i => Nat.beq i.size s.size && Nat.ble i.bytes 65536 && match i.zero with
    | some z => zeroB z s
    | none => false
  | none => false

theorem tyB_ok {P : Program} {t : TypeId} {s : Sh} (h : tyB P t s = true) : TyOK P t s := by
  unfold tyB at h
  split at h
  · rename_i i hi
    simp only [Bool.and_eq_true] at h
    split at h
    · rename_i z hz
      exact ⟨i, hi, Nat.eq_of_beq_eq_true h.1.1, by rw [hz, zeroB_eq h.2], Nat.le_of_ble_eq_true h.1.2⟩
    · cases h.2
  · cases h

mutual
def layB (P : Program) : Sh → TypeId → Bool
  | .int k, t => tyB P t (.int k) && match P.underlying t with | some (.int k') => decide (k' = k) | _ => false
  | .bool, t => tyB P t .bool && match P.underlying t with | some .bool => true | _ => false
  | .str, t => tyB P t .str && match P.underlying t with | some .string => true | _ => false
  | .struct ss, t => tyB P t (.struct ss) && (match P.underlying t with | some (.struct fs) => laysB P ss 0 fs.toList | _ => false) && !P.eqGuardType P.depth t && !P.stoodInHeld t
  | .arr n s, t => tyB P t (.arr n s) && (match P.underlying t with | some (.array m e) => Nat.beq m n && layB P s e | _ => false) && !P.eqGuardType P.depth t
  | .slice s, t => tyB P t (.slice s) && match P.underlying t with | some (.slice e) => layB P s e | _ => false
  | .ref, _ => false
def laysB (P : Program) : List Sh → Nat → List Field → Bool
  | [], _, [] => true
  | s :: ss, off, f :: fs => Nat.beq f.offset off && !(f.name == "_") && Nat.blt 0 s.size && layB P s f.type && laysB P ss (off + s.size) fs
  | _, _, _ => false
end

mutual
theorem layB_ok {P : Program} : ∀ {s : Sh} {t : TypeId}, layB P s t = true → Lay P s t
  | .int k, t, h => by
    simp only [layB, Bool.and_eq_true] at h
    obtain ⟨h1, h2⟩ := h
    split at h2
    · rename_i k' hu; simp only [decide_eq_true_eq] at h2; subst h2
      simp only [Lay]; exact ⟨tyB_ok h1, hu⟩
    · cases h2
  | .bool, t, h => by
    simp only [layB, Bool.and_eq_true] at h
    obtain ⟨h1, h2⟩ := h
    split at h2
    · rename_i hu; simp only [Lay]; exact ⟨tyB_ok h1, hu⟩
    · cases h2
  | .str, t, h => by
    simp only [layB, Bool.and_eq_true] at h
    obtain ⟨h1, h2⟩ := h
    split at h2
    · rename_i hu; simp only [Lay]; exact ⟨tyB_ok h1, hu⟩
    · cases h2
  | .struct ss, t, h => by
    simp only [layB, Bool.and_eq_true, Bool.not_eq_true'] at h
    obtain ⟨⟨⟨h1, h2⟩, h3⟩, h4⟩ := h
    split at h2
    · rename_i fs hu
      simp only [Lay]; exact ⟨tyB_ok h1, ⟨fs, hu, laysB_ok h2⟩, h3, h4⟩
    · cases h2
  | .arr n s, t, h => by
    simp only [layB, Bool.and_eq_true, Bool.not_eq_true'] at h
    obtain ⟨⟨h1, h2⟩, h3⟩ := h
    split at h2
    · rename_i m e hu
      simp only [Bool.and_eq_true] at h2
      have := Nat.eq_of_beq_eq_true h2.1
      subst this
      simp only [Lay]; exact ⟨tyB_ok h1, ⟨e, hu, layB_ok h2.2⟩, h3⟩
    · cases h2
  | .slice s, t, h => by
    simp only [layB, Bool.and_eq_true] at h
    obtain ⟨h1, h2⟩ := h
    split at h2
    · rename_i e hu
      simp only [Lay]; exact ⟨tyB_ok h1, e, hu, layB_ok h2⟩
    · cases h2
  | .ref, _, h => by simp [layB] at h
theorem laysB_ok {P : Program} : ∀ {ss : List Sh} {off : Nat} {fs : List Field}, laysB P ss off fs = true → Lays P ss off fs
  | [], _, [], _ => by simp only [Lays]
  | s :: ss, off, f :: fs, h => by
    simp only [laysB, Bool.and_eq_true, Bool.not_eq_true', beq_eq_false_iff_ne] at h
    obtain ⟨⟨⟨⟨h1, h2⟩, h3⟩, h4⟩, h5⟩ := h
    simp only [Lays]
    exact ⟨Nat.eq_of_beq_eq_true h1, h2, Nat.lt_of_lt_of_le Nat.zero_lt_one (by simpa [Nat.blt] using h3), layB_ok h4, laysB_ok h5⟩
  | [], _, _ :: _, h => by simp [laysB] at h
  | _ :: _, _, [], h => by simp [laysB] at h
end

def refB (P : Program) (t : TypeId) (z : Value) : Bool :=
  (match P.info? t with
  | some i => Nat.beq i.size 1 && match i.zero, z with
    | some (.pointer none), .pointer none => true
    | some .nilFunc, .nilFunc => true
    | some (.map none), .map none => true
    | some .nilIface, .nilIface => true
    | _, _ => false
  | none => false) && match P.underlying t with
  | some (.struct _) | some (.array _ _) | none => false
  | _ => true

theorem refB_ok {P : Program} {t : TypeId} {z : Value} (h : refB P t z = true) : RefLay P t z := by
  unfold refB at h
  simp only [Bool.and_eq_true] at h
  obtain ⟨h1, h2⟩ := h
  split at h1
  · rename_i i hi
    simp only [Bool.and_eq_true] at h1
    obtain ⟨h3, h4⟩ := h1
    refine ⟨⟨i, hi, Nat.eq_of_beq_eq_true h3, ?_⟩, ?_, ?_⟩
    · split at h4 <;> first | assumption | cases h4
    · split at h4 <;> first | rfl | cases h4
    · cases hd : P.underlying t with
      | none => simp [hd] at h2
      | some d => exact ⟨d, rfl, by cases d <;> simp_all⟩
  · cases h1

/-! ### What a layout gives -/
section
variable {P : Program}

/-- The size of a type, and whether its values are of many cells. -/
def Plain (P : Program) (t : TypeId) (n : Nat) (agg : Bool) : Prop :=
  (∃ i, P.info? t = some i ∧ i.size = n) ∧ ∃ d, P.underlying t = some d ∧ (match d with | .struct _ | .array _ _ => true | _ => false) = agg

theorem Lay.ty {s : Sh} {t : TypeId} (h : Lay P s t) : TyOK P t s := by
  cases s <;> simp only [Lay] at h <;> first | exact h.1 | exact h.elim

theorem Lay.plain {s : Sh} {t : TypeId} (h : Lay P s t) : Plain P t s.size s.agg := by
  obtain ⟨i, h1, h2, _⟩ := h.ty
  refine ⟨⟨i, h1, h2⟩, ?_⟩
  cases s <;> simp only [Lay] at h
  case int => exact ⟨_, h.2, rfl⟩
  case bool => exact ⟨_, h.2, rfl⟩
  case str => exact ⟨_, h.2, rfl⟩
  case struct => obtain ⟨_, ⟨fs, h, _⟩, _⟩ := h; exact ⟨_, h, rfl⟩
  case arr => obtain ⟨_, ⟨e, h, _⟩, _⟩ := h; exact ⟨_, h, rfl⟩
  case slice => obtain ⟨_, e, h, _⟩ := h; exact ⟨_, h, rfl⟩

theorem RefLay.plain {z : Value} {t : TypeId} (h : RefLay P t z) : Plain P t 1 false := by
  obtain ⟨⟨i, h1, h2, _⟩, _, d, h3, h4⟩ := h
  exact ⟨⟨i, h1, h2⟩, d, h3, h4⟩

theorem run_isAgg {t : TypeId} {n : Nat} {agg : Bool} (h : Plain P t n agg) (w : World) : (isAgg t).run P w = .ok agg w := by
  obtain ⟨_, d, h1, h2⟩ := h
  unfold isAgg
  rw [Sem.run_bind, run_underlying h1 w]
  cases d <;> simp_all

theorem run_size {t : TypeId} {n : Nat} {agg : Bool} (h : Plain P t n agg) (w : World) : (sizeOf t).run P w = .ok n w := by
  obtain ⟨⟨i, h1, h2⟩, _⟩ := h
  simp [sizeOf, typeInfo, h1, h2]

theorem run_zero {t : TypeId} {z : Value} (h : ∃ i, P.info? t = some i ∧ i.zero = some z) (w : World) : (zeroValue t).run P w = .ok z w := by
  obtain ⟨i, h1, h2⟩ := h
  simp [zeroValue, typeInfo, h1, h2]

theorem addr_add (b off i : Nat) : (⟨b, off, none⟩ : Addr).add i = ⟨b, off + i, none⟩ := by unfold Addr.add; split <;> simp_all

theorem cell_at {w : World} {b off : Nat} {cs : Array Value} {T : TypeId} {fr : Nat × Nat} (h : w.heap[b]? = some (.cells cs T fr)) : w.cell? ⟨b, off, none⟩ = cs[off]? := by
  simp [World.cell?, h]

theorem run_loadVar_chunk {t : TypeId} {n : Nat} {agg : Bool} (hp : Plain P t n agg) (h1 : agg = false → n = 1) {w : World} {b off : Nat} {cs : Array Value} {T : TypeId} {fr : Nat × Nat}
    (hb : w.heap[b]? = some (.cells cs T fr)) (ho : off + n ≤ cs.size) : (loadVar t ⟨b, off, none⟩).run P w = .ok (mkV agg (chunk cs.toList off n)) w := by
  cases agg with
  | true =>
    have hl : (chunk cs.toList off n).length = n := chunk_length _ _ _ (by simpa using ho)
    have hload := run_loadCells_list (P := P) w ⟨b, off, none⟩ (chunk cs.toList off n) (fun j v hv => by
      rw [addr_add, cell_at hb]
      simp only [chunk, List.getElem?_take, List.getElem?_drop] at hv
      split at hv
      · simpa using hv
      · cases hv)
    rw [hl] at hload
    simp [loadVar, run_isAgg hp, run_size hp, hload, mkV]
  | false =>
    have hn := h1 rfl
    subst hn
    have hlt : off < cs.size := by omega
    have hc : w.cell? ⟨b, off, none⟩ = some cs[off] := by rw [cell_at hb]; simp [hlt]
    simp [loadVar, run_isAgg hp, hc, mkV, chunk]
    have : (List.take 1 (List.drop off cs.toList)).head? = some cs[off] := by
      rw [List.head?_take, if_neg (by omega), List.head?_drop]; simp [hlt]
    cases hd : List.take 1 (List.drop off cs.toList) with
    | nil => rw [hd] at this; cases this
    | cons x xs => rw [hd] at this; simp at this; simp [this]

theorem run_storeVar_chunk {t : TypeId} {n : Nat} {agg : Bool} (hp : Plain P t n agg) {w : World} {b off : Nat} {cs : Array Value} {T : TypeId} {v : Value}
    (hb : w.heap[b]? = some (.cells cs T (0, 0))) (ho : off + n ≤ cs.size) (hv : v.cells.size = n) (hone : ∀ x ∈ v.cells.toList, x.oneCell' = true) :
    (storeVar t ⟨b, off, none⟩ v).run P w = .ok () (w.setRow b (splice cs.toList off v.cells.toList).toArray) := by
  have hs := run_storeCells_at P b off T v.cells.toList 0 cs w hb (by simp; omega) hone
  have e : (storeVar t ⟨b, off, none⟩ v).run P w = (storeCells ⟨b, off, none⟩ v.cells.toList 0).run P w := by
    simp [storeVar, run_size hp, hv]
  rw [e, hs]
  simp only [splice, Nat.add_zero]

theorem setRow_other (w : World) (b : Nat) (c : Array Value) (k : Nat) (h : k ≠ b) : (w.setRow b c).heap[k]? = w.heap[k]? := by
  simp only [World.setRow]
  rw [Array.getElem?_modify]
  split
  · rename_i e; exact absurd e.symm h
  · rfl
theorem setRow_same {w : World} {b : Nat} {cs : Array Value} {T : TypeId} (c : Array Value) (h : w.heap[b]? = some (.cells cs T (0, 0))) : (w.setRow b c).heap[b]? = some (.cells c T (0, 0)) := by
  simp only [World.setRow]
  rw [Array.getElem?_modify]
  simp [h]
theorem setRow_size (w : World) (b : Nat) (c : Array Value) : (w.setRow b c).heap.size = w.heap.size := by simp [World.setRow]
end

/-! ### The kinds of numbers -/
theorem wrap_in (k : IntKind) (n : Int) : k.min ≤ k.wrap n ∧ k.wrap n ≤ k.max := by
  cases k <;> simp only [IntKind.wrap, IntKind.min, IntKind.max, IntKind.signed, IntKind.bits] <;> simp <;> (try split) <;> omega

end Go.Vm

noncomputable section
namespace Go.Vm
open Go

def kmin : IntKind → Int
  | .i8 => -128 | .i16 => -32768 | .i32 => -2147483648 | .i64 => -9223372036854775808 | _ => 0
def kmax : IntKind → Int
  | .i8 => 127 | .i16 => 32767 | .i32 => 2147483647 | .i64 => 9223372036854775807 | .u8 => 255 | .u16 => 65535 | .u32 => 4294967295 | .u64 => 18446744073709551615
theorem kmin_eq (k : IntKind) : kmin k = k.min := by cases k <;> decide
theorem kmax_eq (k : IntKind) : kmax k = k.max := by cases k <;> decide

/-- A constant. -/
def cv : Value → HV
  | .int k n => match Int.decLe (kmin k) n, Int.decLe n (kmax k) with
    | .isTrue _, .isTrue _ => .dat (.int k) (.I n)
    | _, _ => .und
  | .bool b => .dat .bool (.B b)
  | .string s => match Nat.ble s.size 9223372036854775807 with
    | true => .dat .str (.S s)
    | false => .und
  | .agg _ => .und
  | .tuple _ => .und
  | v => .cst v

theorem HRel.cst_mk {g : Ghost} {loc : Loc} {v : Value} (h : v.oneCell' = true) : HRel g loc (.cst v) v := by
  show ∃ us, HC g loc (.cst v) us ∧ v = mkV _ us
  exact ⟨[v], by simp only [HC]; exact ⟨trivial, h⟩, rfl⟩

theorem cv_rel (g : Ghost) (loc : Loc) (v : Value) : HRel g loc (cv v) v := by
  cases v with
  | int k n =>
    simp only [cv]
    split
    · rename_i h1 h2 _ _
      exact HRel.int_mk (by rw [← kmin_eq]; exact h1) (by rw [← kmax_eq]; exact h2)
    · exact trivial
  | bool b => exact HRel.bool_mk
  | string s =>
    simp only [cv]
    split
    · rename_i h
      exact HRel.dat_iff.2 ⟨[.string s], by simp only [Rel, D.str]; exact ⟨trivial, Nat.le_of_ble_eq_true h⟩, rfl⟩
    · exact trivial
  | agg _ => exact trivial
  | tuple _ => exact trivial
  | _ => exact HRel.cst_mk rfl

/-! ### Numbers -/
def bitsOp (op : BinOp) (k : IntKind) (x y : Int) : Int :=
  let a := BitVec.ofInt k.bits x
  let b := BitVec.ofInt k.bits y
  match op with
  | .and => k.wrap (a &&& b).toNat
  | .or => k.wrap (a ||| b).toNat
  | .xor => k.wrap (a ^^^ b).toNat
  | _ => k.wrap (a &&& ~~~b).toNat

def ltB (a b : Int) : Bool := decide (a < b)
def leB (a b : Int) : Bool := decide (a ≤ b)

def shl (k : IntKind) (x y : Int) : Int := k.wrap (x * 2 ^ (min y.toNat k.bits))
def shr (k : IntKind) (x y : Int) : Int := x.fdiv (2 ^ (min y.toNat k.bits))

/-- Two numbers of kind k; of the second's kind k' only shifts ask nothing. -/
def arith (op : BinOp) (k k' : IntKind) (a b : Int) : Option (HV × Option Prop) :=
  match op with
  | .shl => some (.dat (.int k) (.I (shl k a b)), some (0 ≤ b))
  | .shr => some (.dat (.int k) (.I (shr k a b)), some (0 ≤ b))
  | op => match decide (k = k') with
    | false => none
    | true => match op with
      | .add => some (.dat (.int k) (.I (k.wrap (a + b))), none)
      | .sub => some (.dat (.int k) (.I (k.wrap (a - b))), none)
      | .mul => some (.dat (.int k) (.I (k.wrap (a * b))), none)
      | .quo => some (.dat (.int k) (.I (k.wrap (a.tdiv b))), some (b ≠ 0))
      | .rem => some (.dat (.int k) (.I (a.tmod b)), some (b ≠ 0))
      | .and => some (.dat (.int k) (.I (bitsOp .and k a b)), none)
      | .or => some (.dat (.int k) (.I (bitsOp .or k a b)), none)
      | .xor => some (.dat (.int k) (.I (bitsOp .xor k a b)), none)
      | .andNot => some (.dat (.int k) (.I (bitsOp .andNot k a b)), none)
      | .eql => some (.dat .bool (.B (a == b)), none)
      | .neq => some (.dat .bool (.B (a != b)), none)
      | .lss => some (.dat .bool (.B (ltB a b)), none)
      | .leq => some (.dat .bool (.B (leB a b)), none)
      | .gtr => some (.dat .bool (.B (ltB b a)), none)
      | .geq => some (.dat .bool (.B (leB b a)), none)
      | _ => none

def holds : Option Prop → Prop
  | none => True
  | some p => p

theorem tmod_in {k : IntKind} {a b : Int} (h1 : k.min ≤ a) (h2 : a ≤ k.max) : k.min ≤ a.tmod b ∧ a.tmod b ≤ k.max := by
  have hk : k.min ≤ 0 ∧ 0 ≤ k.max := kind_zero k
  rcases Int.le_total 0 a with h | h
  · have h3 := Int.tmod_nonneg b h
    have h4 : a.tmod b ≤ a := by
      have := Int.natAbs_tmod a b
      have h5 : a.natAbs % b.natAbs ≤ a.natAbs := Nat.mod_le _ _
      omega
    omega
  · have h3 : a.tmod b ≤ 0 := by
      have := Int.tmod_nonneg b (show 0 ≤ -a by omega)
      rw [Int.neg_tmod] at this
      omega
    have h4 : a ≤ a.tmod b := by
      have := Int.natAbs_tmod a b
      have h5 : a.natAbs % b.natAbs ≤ a.natAbs := Nat.mod_le _ _
      omega
    omega

theorem fdiv_in {k : IntKind} {a : Int} (n : Nat) (h1 : k.min ≤ a) (h2 : a ≤ k.max) : k.min ≤ a.fdiv (2 ^ n) ∧ a.fdiv (2 ^ n) ≤ k.max := by
  have hk : k.min ≤ 0 ∧ 0 ≤ k.max := kind_zero k
  have hp : (0 : Int) < 2 ^ n := Int.pow_pos (by decide)
  rw [Int.fdiv_eq_ediv_of_nonneg _ (Int.le_of_lt hp)]
  rcases Int.le_total 0 a with h | h
  · have h3 := Int.ediv_nonneg h (Int.le_of_lt hp)
    have h4 : a / 2 ^ n ≤ a := Int.ediv_le_self _ h
    omega
  · have h3 : a / 2 ^ n ≤ 0 := by
      have := Int.ediv_le_ediv hp h
      simpa using this
    have h4 : a ≤ a / 2 ^ n := by
      rw [Int.le_ediv_iff_mul_le hp]
      have : (1 : Int) ≤ 2 ^ n := by omega
      have := Int.mul_le_mul_of_nonpos_left h this
      simpa using this
    omega

section
variable {P : Program} {g : Ghost} {loc : Loc}

theorem arith_run {op : BinOp} {k k' : IntKind} {a b : Int} {hv : HV} {pre : Option Prop} (h : arith op k k' a b = some (hv, pre)) (hp : holds pre)
    (ha : k.min ≤ a ∧ a ≤ k.max) (w : World) : ∃ v, (binOp op 0 (.int k a) (.int k' b)).run P w = .ok v w ∧ HRel g loc hv v := by
  unfold arith at h
  split at h
  · simp only [Option.some.injEq, Prod.mk.injEq] at h
    obtain ⟨rfl, rfl⟩ := h
    simp only [holds] at hp
    refine ⟨.int k (shl k a b), ?_, HRel.int_mk (wrap_in _ _).1 (wrap_in _ _).2⟩
    simp [binOp, Op.shift, shl, show ¬ b < 0 by omega]
  · simp only [Option.some.injEq, Prod.mk.injEq] at h
    obtain ⟨rfl, rfl⟩ := h
    simp only [holds] at hp
    refine ⟨.int k (shr k a b), ?_, HRel.int_mk (fdiv_in _ ha.1 ha.2).1 (fdiv_in _ ha.1 ha.2).2⟩
    simp [binOp, Op.shift, shr, show ¬ b < 0 by omega]
  · split at h
    · cases h
    · rename_i hk
      simp only [decide_eq_true_eq] at hk
      subst hk
      split at h <;> simp only [Option.some.injEq, Prod.mk.injEq, reduceCtorEq] at h <;> obtain ⟨rfl, rfl⟩ := h <;> simp only [holds] at hp
      · exact ⟨_, by simp only [binOp, ne_eq, not_true_eq_false, if_false, Op.intArith]; rfl, HRel.int_mk (wrap_in _ _).1 (wrap_in _ _).2⟩
      · exact ⟨_, by simp only [binOp, ne_eq, not_true_eq_false, if_false, Op.intArith]; rfl, HRel.int_mk (wrap_in _ _).1 (wrap_in _ _).2⟩
      · exact ⟨_, by simp only [binOp, ne_eq, not_true_eq_false, if_false, Op.intArith]; rfl, HRel.int_mk (wrap_in _ _).1 (wrap_in _ _).2⟩
      · exact ⟨_, by simp only [binOp, ne_eq, not_true_eq_false, if_false, Op.intDiv, hp]; rfl, HRel.int_mk (wrap_in _ _).1 (wrap_in _ _).2⟩
      · exact ⟨_, by simp only [binOp, ne_eq, not_true_eq_false, if_false, Op.intDiv, hp]; rfl, HRel.int_mk (tmod_in ha.1 ha.2).1 (tmod_in ha.1 ha.2).2⟩
      · exact ⟨_, by simp only [binOp, ne_eq, not_true_eq_false, if_false, Op.intBits]; rfl, HRel.int_mk (wrap_in _ _).1 (wrap_in _ _).2⟩
      · exact ⟨_, by simp only [binOp, ne_eq, not_true_eq_false, if_false, Op.intBits]; rfl, HRel.int_mk (wrap_in _ _).1 (wrap_in _ _).2⟩
      · exact ⟨_, by simp only [binOp, ne_eq, not_true_eq_false, if_false, Op.intBits]; rfl, HRel.int_mk (wrap_in _ _).1 (wrap_in _ _).2⟩
      · exact ⟨_, by simp only [binOp, ne_eq, not_true_eq_false, if_false, Op.intBits]; rfl, HRel.int_mk (wrap_in _ _).1 (wrap_in _ _).2⟩
      all_goals exact ⟨_, by simp only [binOp, ne_eq, not_true_eq_false, if_false, Op.intCmp]; rfl, HRel.bool_mk⟩

theorem binOp_int_ty (op : BinOp) (t t' : TypeId) (k k' : IntKind) (a b : Int) : binOp op t (.int k a) (.int k' b) = binOp op t' (.int k a) (.int k' b) := by
  cases op <;> simp only [binOp]
end
end Go.Vm

noncomputable section
namespace Go.Vm
open Go

mutual
def eqD : Sh → D → D → Bool
  | .int _, a, b => a.int == b.int
  | .bool, a, b => a.bool == b.bool
  | .str, a, b => a.str == b.str
  | .struct ss, a, b => eqDs ss 0 a b
  | .arr n s, a, b => (List.range n).all fun j => eqD s (a.nth j) (b.nth j)
  | _, _, _ => true
def eqDs : List Sh → Nat → D → D → Bool
  | [], _, _, _ => true
  | s :: ss, i, a, b => eqD s (a.nth i) (b.nth i) && eqDs ss (i + 1) a b
end

mutual
def Sh.depth : Sh → Nat
  | .struct ss => Sh.depths ss + 1
  | .arr _ s => s.depth + 1
  | _ => 1
def Sh.depths : List Sh → Nat
  | [] => 0
  | s :: ss => max s.depth (Sh.depths ss)
end

section
variable {P : Program} {g : Ghost} {loc : Loc}

theorem run_part {t : TypeId} {n : Nat} {agg : Bool} (hp : Plain P t n agg) (h1 : agg = false → n = 1) (cs : Array Value) (off : Nat) (ho : off + n ≤ cs.size) (w : World) :
    (part t cs off).run P w = .ok (mkV agg (chunk cs.toList off n)) w := by
  cases agg with
  | true =>
    simp only [part, Sem.run_bind, run_isAgg hp, Result.andThen_ok, if_true, run_size hp, Sem.run_pure, mkV]
    congr 2
    rw [← Array.toList_inj]
    simp [chunk, List.take_drop]
  | false =>
    have hn := h1 rfl
    subst hn
    have hlt : off < cs.size := by omega
    have hc : cs[off]? = some cs[off] := by simp [hlt]
    simp only [part, Sem.run_bind, run_isAgg hp, Result.andThen_ok, Bool.false_eq_true, if_false, hc, Sem.run_pure, mkV]
    have : (chunk cs.toList off 1).head? = some cs[off] := by
      rw [chunk, List.head?_take, if_neg (by omega), List.head?_drop]; simp [hlt]
    cases hd : chunk cs.toList off 1 with
    | nil => rw [hd] at this; cases this
    | cons x xs => rw [hd] at this; simp at this; simp [this]

theorem Sh.size_one {s : Sh} (h : s.agg = false) : s.size = 1 := by cases s <;> simp_all [Sh.agg, Sh.size]

mutual
theorem equalIn_run : ∀ {s : Sh} {t : TypeId} {a b : D} {xs ys : List Value} (d : Nat), Lay P s t → s.flat = true → s.depth ≤ d → Rel g s a xs → Rel g s b ys → ∀ w,
    (Op.equalIn d t (mkV s.agg xs) (mkV s.agg ys)).run P w = .ok (eqD s a b) w
  | .int k, t, a, b, xs, ys, d, hl, _, hd, hx, hy, w => by
    simp only [Lay] at hl
    simp only [Rel] at hx hy
    obtain ⟨rfl, _⟩ := hx
    obtain ⟨rfl, _⟩ := hy
    simp only [Sh.depth] at hd
    obtain ⟨d, rfl⟩ : ∃ e, d = e + 1 := ⟨d - 1, by omega⟩
    exact run_equalIn_int w d t k k _ _ hl.2
  | .bool, t, a, b, xs, ys, d, hl, _, hd, hx, hy, w => by
    simp only [Lay] at hl
    simp only [Rel] at hx hy
    subst hx; subst hy
    simp only [Sh.depth] at hd
    obtain ⟨d, rfl⟩ : ∃ e, d = e + 1 := ⟨d - 1, by omega⟩
    exact run_equalIn_bool' w d t _ _ hl.2
  | .str, t, a, b, xs, ys, d, hl, _, hd, hx, hy, w => by
    simp only [Lay] at hl
    simp only [Rel] at hx hy
    obtain ⟨hx, _⟩ := hx
    obtain ⟨hy, _⟩ := hy
    subst hx; subst hy
    simp only [Sh.depth] at hd
    obtain ⟨d, rfl⟩ : ∃ e, d = e + 1 := ⟨d - 1, by omega⟩
    have := run_equalIn_string w d t a.str b.str hl.2
    rw [← beq_toListBytes] at this
    exact this
  | .struct ss, t, a, b, xs, ys, d, hl, hf, hd, hx, hy, w => by
    simp only [Lay] at hl
    obtain ⟨_, ⟨fs, hu, hls⟩, _, hst⟩ := hl
    simp only [Sh.depth] at hd
    obtain ⟨d, rfl⟩ : ∃ e, d = e + 1 := ⟨d - 1, by omega⟩
    have hfo : P.fieldsOf t = fs := by simp [Program.fieldsOf, hu]
    simp only [Sh.agg, mkV]
    rw [run_equalIn_struct w d t _ _ (by rw [hfo]; exact hu) hst, hfo]
    simp only [Rel] at hx hy
    simp only [eqD]
    have hxl := Rels.length hx
    have hyl := Rels.length hy
    exact eqFields_run d 0 hls (by simpa [Sh.flat] using hf) (by omega) (by simpa using hx) (by simpa using hy) (by simp [hxl]) (by simp [hyl]) w
  | .arr n s, t, a, b, xs, ys, d, hl, hf, hd, hx, hy, w => by
    simp only [Lay] at hl
    obtain ⟨_, ⟨e, hu, hls⟩, _⟩ := hl
    simp only [Sh.depth] at hd
    obtain ⟨d, rfl⟩ : ∃ e, d = e + 1 := ⟨d - 1, by omega⟩
    simp only [Sh.agg, mkV, eqD]
    simp only [Rel] at hx hy
    have hfs : s.flat = true := by simpa [Sh.flat] using hf
    simp only [Op.equalIn, Sem.run_bind, run_underlying hu, Result.andThen_ok, run_size hls.plain, Std.Legacy.Range.forIn_eq_forIn_range', Std.Legacy.Range.size, Nat.sub_zero, Nat.add_sub_cancel, Nat.div_one]
    have key : ∀ (m k : Nat), k + m = n → ∀ w, ((forIn (m := Sem) (List.range' k m) ((none, ()) : Option Bool × Unit) fun i r => do
        let __do_lift ← part e xs.toArray (i * s.size)
        let __do_lift_1 ← part e ys.toArray (i * s.size)
        let __do_lift ← Op.equalIn d e __do_lift __do_lift_1
        if (!__do_lift) = true then pure (ForInStep.done (some false, ())) else pure (ForInStep.yield (none, ())))).run P w = .ok (if (List.range' k m).all (fun j => eqD s (a.nth j) (b.nth j)) then none else some false, ()) w := by
      intro m
      induction m with
      | zero => intro k _ w; simp
      | succ m ih =>
        intro k hk w
        have hkn : k < n := by omega
        have hb1 : k * s.size + s.size ≤ n * s.size := by
          calc k * s.size + s.size = (k + 1) * s.size := by rw [Nat.add_mul, Nat.one_mul]
            _ ≤ n * s.size := Nat.mul_le_mul_right _ hkn
        have p1 := run_part hls.plain Sh.size_one xs.toArray (k * s.size) (by simp [hx.1]; exact hb1) w
        have p2 := run_part hls.plain Sh.size_one ys.toArray (k * s.size) (by simp [hy.1]; exact hb1) w
        have q := equalIn_run d hls hfs (by omega) (hx.2 k hkn) (hy.2 k hkn) w
        rw [List.range'_succ, List.forIn_cons]
        simp only [Sem.run_bind, p1, p2, Result.andThen_ok, q, List.all_cons]
        by_cases hq : eqD s (a.nth k) (b.nth k) = true
        · simp only [hq, Bool.not_true, Bool.false_eq_true, if_false, Sem.run_pure, Result.andThen_ok, Bool.true_and]
          exact ih (k + 1) (by omega) w
        · simp only [Bool.not_eq_true] at hq
          simp only [hq, Bool.not_false, if_true, Sem.run_pure, Result.andThen_ok, Bool.false_and, Bool.false_eq_true, if_false]
    have := key n 0 (by omega) w
    rw [this, List.range_eq_range']
    simp only [Result.andThen_ok]
    by_cases hq : (List.range' 0 n).all (fun j => eqD s (a.nth j) (b.nth j)) = true
    · rw [hq]; simp
    · simp only [Bool.not_eq_true] at hq
      rw [hq]; simp
  | .slice s, t, a, b, xs, ys, d, hl, hf, hd, hx, hy, w => by simp [Sh.flat] at hf
  | .ref, t, a, b, xs, ys, d, hl, hf, hd, hx, hy, w => by simp [Sh.flat] at hf
theorem eqFields_run : ∀ {ss : List Sh} {fs : List Field} {i : Nat} {a b : D} {xs ys : Array Value} (d off : Nat), Lays P ss off fs → Sh.flats ss = true → Sh.depths ss ≤ d →
    Rels g ss i a (xs.toList.drop off) → Rels g ss i b (ys.toList.drop off) → off + Sh.sizes ss = xs.size → off + Sh.sizes ss = ys.size → ∀ w,
    (Op.eqFields d xs ys fs).run P w = .ok (eqDs ss i a b) w
  | [], [], i, a, b, xs, ys, d, off, _, _, _, _, _, _, _, w => by simp [Op.eqFields, eqDs]
  | [], _ :: _, _, _, _, _, _, _, _, h, _, _, _, _, _, _, _ => by simp [Lays] at h
  | _ :: _, [], _, _, _, _, _, _, _, h, _, _, _, _, _, _, _ => by simp [Lays] at h
  | s :: ss, f :: fs, i, a, b, xs, ys, d, off, hl, hf, hd, hx, hy, h1, h2, w => by
    simp only [Lays] at hl
    obtain ⟨hoff, hname, _, hls, hrest⟩ := hl
    simp only [Sh.flats, Bool.and_eq_true] at hf
    simp only [Sh.depths] at hd
    simp only [Rels] at hx hy
    simp only [Sh.sizes] at h1 h2
    have p1 := run_part hls.plain Sh.size_one xs off (by omega) w
    have p2 := run_part hls.plain Sh.size_one ys off (by omega) w
    have q := equalIn_run d hls hf.1 (by omega) hx.2.1 hy.2.1 w
    simp only [Op.eqFields, hname, ne_eq, not_false_eq_true, if_true, hoff, Sem.run_bind, p1, p2, Result.andThen_ok]
    have e1 : chunk xs.toList off s.size = List.take s.size (List.drop off xs.toList) := rfl
    have e2 : chunk ys.toList off s.size = List.take s.size (List.drop off ys.toList) := rfl
    rw [e1, e2, q]
    simp only [Result.andThen_ok, eqDs]
    by_cases hq : eqD s (a.nth i) (b.nth i) = true
    case neg =>
      simp only [Bool.not_eq_true] at hq
      simp [hq]
    case pos =>
      simp only [hq, Bool.not_true, Bool.false_eq_true, if_false, Bool.true_and]
      refine eqFields_run d (off + s.size) hrest hf.2 (by omega) ?_ ?_ (by omega) (by omega) w
      · rw [← List.drop_drop]; exact hx.2.2
      · rw [← List.drop_drop]; exact hy.2.2
end
end
end Go.Vm
