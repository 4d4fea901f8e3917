/- The data of the evaluator: shapes, universal data, and what it means that cells hold data of a shape. -/
import Derived.WalkKit
import Derived.RangeFuncKeeps
import Derived.RangeFuncLeaves
import Derived.TacticsIn
import Derived.OrdersIn
import Derived.Sort.LoopGhostIn
noncomputable section
namespace Go.Vm
open Go

inductive Sh where
  | int (k : IntKind) | bool | str | struct (fs : List Sh) | arr (n : Nat) (s : Sh) | slice (s : Sh) | ref
  deriving Inhabited

inductive D where
  | Z | I (n : Int) | B (x : Bool) | S (x : ByteArray) | L (xs : List D) | F (g : Nat → D)
  deriving Inhabited

def D.int : D → Int | .I n => n | _ => 0
def D.bool : D → Bool | .B x => x | _ => false
def D.str : D → ByteArray | .S x => x | _ => ByteArray.empty
def D.list : D → List D | .L xs => xs | _ => []
def D.nth : D → Nat → D
  | .L xs, i => xs.getD i .Z
  | .F g, i => g i
  | _, _ => .Z

mutual
def Sh.size : Sh → Nat
  | .struct fs => Sh.sizes fs
  | .arr n s => n * s.size
  | _ => 1
def Sh.sizes : List Sh → Nat
  | [] => 0
  | s :: ss => s.size + Sh.sizes ss
end

def Sh.agg : Sh → Bool
  | .struct _ | .arr _ _ => true
  | _ => false

mutual
def Sh.beq : Sh → Sh → Bool
  | .int k, .int k' => decide (k = k')
  | .bool, .bool => true
  | .str, .str => true
  | .struct a, .struct b => Sh.beqs a b
  | .arr n s, .arr m t => Nat.beq n m && Sh.beq s t
  | .slice s, .slice t => Sh.beq s t
  | .ref, .ref => true
  | _, _ => false
def Sh.beqs : List Sh → List Sh → Bool
  | [], [] => true
  | a :: as, b :: bs => Sh.beq a b && Sh.beqs as bs
  | _, _ => false
end

mutual
theorem Sh.beq_eq : ∀ {a b : Sh}, Sh.beq a b = true → a = b
  | .int k, b, h => by cases b <;> simp_all [Sh.beq]
  | .bool, b, h => by cases b <;> simp_all [Sh.beq]
  | .str, b, h => by cases b <;> simp_all [Sh.beq]
  | .struct a, b, h => by
    cases b <;> simp only [Sh.beq, Bool.false_eq_true] at h
    rw [Sh.beqs_eq h]
  | .arr n s, b, h => by
    cases b <;> simp only [Sh.beq, Bool.false_eq_true, Bool.and_eq_true] at h
    rw [Nat.eq_of_beq_eq_true h.1, Sh.beq_eq h.2]
  | .slice s, b, h => by
    cases b <;> simp only [Sh.beq, Bool.false_eq_true] at h
    rw [Sh.beq_eq h]
  | .ref, b, h => by cases b <;> simp_all [Sh.beq]
theorem Sh.beqs_eq : ∀ {a b : List Sh}, Sh.beqs a b = true → a = b
  | [], b, h => by cases b <;> simp_all [Sh.beqs]
  | a :: as, b, h => by
    cases b <;> simp only [Sh.beqs, Bool.false_eq_true, Bool.and_eq_true] at h
    rw [Sh.beq_eq h.1, Sh.beqs_eq h.2]
end

/-- A part of the heap: blocks that nobody writes any more. -/
abbrev Ghost := Nat → Option Obj

def chunk (vs : List Value) (off n : Nat) : List Value := (vs.drop off).take n

mutual
def Rel (g : Ghost) : Sh → D → List Value → Prop
  | .int k, d, vs => vs = [.int k d.int] ∧ k.min ≤ d.int ∧ d.int ≤ k.max
  | .bool, d, vs => vs = [.bool d.bool]
  | .str, d, vs => vs = [.string d.str]
  | .struct ss, d, vs => Rels g ss 0 d vs
  | .arr n s, d, vs => vs.length = n * s.size ∧ ∀ j, j < n → Rel g s (d.nth j) (chunk vs (j * s.size) s.size)
  | .slice s, d, vs => ∃ a cap, vs = [.slice a d.list.length cap] ∧ match a with
    | none => d.list = [] ∧ cap = 0
    | some a => d.list.length ≤ min cap 9223372036854775807 ∧ (0 < cap → a.spot = none ∧ ∃ cs T fr, g a.block = some (.cells cs T fr) ∧ a.off + cap * s.size ≤ cs.size ∧
      ∀ j, j < d.list.length → Rel g s (d.list.getD j .Z) (chunk cs.toList (a.off + j * s.size) s.size))
  | .ref, _, _ => False
def Rels (g : Ghost) : List Sh → Nat → D → List Value → Prop
  | [], _, _, vs => vs = []
  | s :: ss, i, d, vs => s.size ≤ vs.length ∧ Rel g s (d.nth i) (vs.take s.size) ∧ Rels g ss (i + 1) d (vs.drop s.size)
end

mutual
/-- All numbers lie within their kinds. -/
def InR : Sh → D → Prop
  | .int k, d => k.min ≤ d.int ∧ d.int ≤ k.max
  | .struct ss, d => InRs ss 0 d
  | .arr n s, d => ∀ j, j < n → InR s (d.nth j)
  | .slice s, d => d.list.length ≤ 9223372036854775807 ∧ ∀ j, j < d.list.length → InR s (d.list.getD j .Z)
  | _, _ => True
def InRs : List Sh → Nat → D → Prop
  | [], _, _ => True
  | s :: ss, i, d => InR s (d.nth i) ∧ InRs ss (i + 1) d
end

theorem chunk_length (vs : List Value) (off n : Nat) (h : off + n ≤ vs.length) : (chunk vs off n).length = n := by
  simp [chunk]; omega

mutual
theorem Rel.length {g : Ghost} : ∀ {s : Sh} {d : D} {vs : List Value}, Rel g s d vs → vs.length = s.size
  | .int _, _, _, h => by simp only [Rel] at h; simp [h.1, Sh.size]
  | .bool, _, _, h => by simp only [Rel] at h; simp [h, Sh.size]
  | .str, _, _, h => by simp only [Rel] at h; simp [h, Sh.size]
  | .struct ss, _, _, h => by simp only [Rel] at h; simpa [Sh.size] using Rels.length h
  | .arr n s, _, _, h => by simp only [Rel] at h; simpa [Sh.size] using h.1
  | .slice s, _, _, h => by
    simp only [Rel] at h
    obtain ⟨a, cap, rfl, _⟩ := h
    simp [Sh.size]
  | .ref, _, _, h => by simp only [Rel] at h
theorem Rels.length {g : Ghost} : ∀ {ss : List Sh} {i : Nat} {d : D} {vs : List Value}, Rels g ss i d vs → vs.length = Sh.sizes ss
  | [], _, _, _, h => by simp only [Rels] at h; simp [h, Sh.sizes]
  | s :: ss, i, d, vs, h => by
    simp only [Rels] at h
    have h1 := Rels.length h.2.2
    simp only [List.length_drop] at h1
    simp only [Sh.sizes]
    omega
end

mutual
theorem Rel.inR {g : Ghost} : ∀ {s : Sh} {d : D} {vs : List Value}, Rel g s d vs → InR s d
  | .int _, _, _, h => by simp only [Rel] at h; simpa [InR] using h.2
  | .bool, _, _, _ => by simp [InR]
  | .str, _, _, _ => by simp [InR]
  | .struct ss, _, _, h => by simp only [Rel] at h; simp only [InR]; exact Rels.inR h
  | .arr n s, _, _, h => by
    simp only [Rel] at h
    simp only [InR]
    exact fun j hj => Rel.inR (h.2 j hj)
  | .slice s, _, _, h => by
    simp only [Rel] at h
    simp only [InR]
    obtain ⟨a, cap, rfl, h⟩ := h
    cases a with
    | none => simp only at h; exact ⟨by rw [h.1]; simp, fun j hj => by rw [h.1] at hj; simp at hj⟩
    | some a =>
      refine ⟨by have := h.1; omega, fun j hj => ?_⟩
      obtain ⟨_, cs, T, fr, _, _, h⟩ := h.2 (by have := h.1; omega)
      exact Rel.inR (h j hj)
  | .ref, _, _, h => by simp only [Rel] at h
theorem Rels.inR {g : Ghost} : ∀ {ss : List Sh} {i : Nat} {d : D} {vs : List Value}, Rels g ss i d vs → InRs ss i d
  | [], _, _, _, _ => by simp [InRs]
  | s :: ss, i, d, vs, h => by
    simp only [Rels] at h
    simp only [InRs]
    exact ⟨Rel.inR h.2.1, Rels.inR h.2.2⟩
end

/-- One part of the heap holds what the other one holds. -/
def Ghost.le (g g' : Ghost) : Prop := ∀ b x, g b = some x → g' b = some x

theorem Ghost.le_refl (g : Ghost) : g.le g := fun _ _ h => h
theorem Ghost.le_trans {a b c : Ghost} (h : a.le b) (k : b.le c) : a.le c := fun x y z => k x y (h x y z)

/-- As far as cells go. -/
def Ghost.leC (g g' : Ghost) : Prop := ∀ b cs T fr, g b = some (.cells cs T fr) → g' b = some (.cells cs T fr)
theorem Ghost.le.c {g g' : Ghost} (h : g.le g') : g.leC g' := fun b _ _ _ h1 => h b _ h1

mutual
theorem Rel.monoC {g g' : Ghost} (hg : g.leC g') : ∀ {s : Sh} {d : D} {vs : List Value}, Rel g s d vs → Rel g' s d vs
  | .int _, _, _, h => by simp only [Rel] at h ⊢; exact h
  | .bool, _, _, h => by simp only [Rel] at h ⊢; exact h
  | .str, _, _, h => by simp only [Rel] at h ⊢; exact h
  | .struct ss, _, _, h => by simp only [Rel] at h ⊢; exact Rels.monoC hg h
  | .arr n s, _, _, h => by
    simp only [Rel] at h ⊢
    exact ⟨h.1, fun j hj => Rel.monoC hg (h.2 j hj)⟩
  | .slice s, _, _, h => by
    simp only [Rel] at h ⊢
    obtain ⟨a, cap, rfl, h⟩ := h
    refine ⟨a, cap, rfl, ?_⟩
    cases a with
    | none => exact h
    | some a =>
      refine ⟨h.1, fun hc => ?_⟩
      obtain ⟨h1, cs, T, fr, h3, h4, h⟩ := h.2 hc
      exact ⟨h1, cs, T, fr, hg _ _ _ _ h3, h4, fun j hj => Rel.monoC hg (h j hj)⟩
  | .ref, _, _, h => by simp only [Rel] at h
theorem Rels.monoC {g g' : Ghost} (hg : g.leC g') : ∀ {ss : List Sh} {i : Nat} {d : D} {vs : List Value}, Rels g ss i d vs → Rels g' ss i d vs
  | [], _, _, _, h => by simp only [Rels] at h ⊢; exact h
  | s :: ss, i, d, vs, h => by
    simp only [Rels] at h ⊢
    exact ⟨h.1, Rel.monoC hg h.2.1, Rels.monoC hg h.2.2⟩
end

theorem Rel.mono {g g' : Ghost} (hg : g.le g') {s : Sh} {d : D} {vs : List Value} (h : Rel g s d vs) : Rel g' s d vs := h.monoC hg.c
theorem Rels.mono {g g' : Ghost} (hg : g.le g') {ss : List Sh} {i : Nat} {d : D} {vs : List Value} (h : Rels g ss i d vs) : Rels g' ss i d vs := h.monoC hg.c

/-! ### Places within data -/

inductive PS where
  | fld (i : Nat) | idx (n : Nat)

/-- The shape behind one step, and how far it lies behind the beginning. -/
def Sh.step : Sh → PS → Option (Sh × Nat)
  | .struct ss, .fld i => match ss[i]? with
    | some s => some (s, Sh.sizes (ss.take i))
    | none => none
  | .arr _ s, .idx i => some (s, i * s.size)
  | _, _ => none

/-- The index lies within. -/
def Sh.inStep : Sh → PS → Prop
  | .arr n _, .idx i => i < n
  | _, _ => True

def ofNth (n : Nat) (d : D) (i : Nat) (v : D) : List D := (List.range n).map fun j => match Nat.beq j i with | true => v | false => d.nth j

def D.putStep : Sh → D → PS → D → D
  | .struct ss, d, .fld i, v => .L (ofNth ss.length d i v)
  | .arr _ _, d, .idx i, v => .F (fun j => match Nat.beq j i with | true => v | false => d.nth j)
  | _, d, _, _ => d

def D.getStep (d : D) : PS → D
  | .fld i => d.nth i
  | .idx i => d.nth i

theorem ofNth_nth (n : Nat) (d : D) (i j : Nat) (v : D) (hj : j < n) : (D.L (ofNth n d i v)).nth j = if j = i then v else d.nth j := by
  simp only [D.nth, ofNth]
  rw [List.getD_eq_getElem?_getD, List.getElem?_map, List.getElem?_range hj]
  simp only [Option.map_some, Option.getD_some]
  by_cases h : j = i
  · subst h; simp
  · have hb : Nat.beq j i = false := Bool.eq_false_iff.2 fun hh => h (Nat.eq_of_beq_eq_true hh)
    simp [h, hb]

theorem Rels.get {g : Ghost} : ∀ {ss : List Sh} {i : Nat} {d : D} {vs : List Value} (k : Nat) {s : Sh}, Rels g ss i d vs → ss[k]? = some s →
    Rel g s (d.nth (i + k)) (chunk vs (Sh.sizes (ss.take k)) s.size) ∧ Sh.sizes (ss.take k) + s.size ≤ vs.length
  | [], _, _, _, k, _, _, hk => by simp at hk
  | s0 :: ss, i, d, vs, 0, s, h, hk => by
    simp only [Rels] at h
    simp at hk
    subst hk
    simp only [List.take_zero, Sh.sizes, chunk, List.drop_zero, Nat.add_zero]
    exact ⟨h.2.1, by omega⟩
  | s0 :: ss, i, d, vs, k + 1, s, h, hk => by
    simp only [Rels] at h
    have hk' : ss[k]? = some s := by simpa using hk
    obtain ⟨h1, h2⟩ := Rels.get k h.2.2 hk'
    simp only [List.take_succ_cons, Sh.sizes]
    simp only [List.length_drop] at h2
    refine ⟨?_, by omega⟩
    have e : i + (k + 1) = i + 1 + k := by omega
    rw [e]
    simpa [chunk, List.drop_drop] using h1

theorem Rel.get {g : Ghost} {s s' : Sh} {d : D} {vs : List Value} {p : PS} {off : Nat} (h : Rel g s d vs) (hp : s.step p = some (s', off)) (hi : s.inStep p) :
    Rel g s' (d.getStep p) (chunk vs off s'.size) ∧ off + s'.size ≤ s.size := by
  have hl := h.length
  cases s with
  | struct ss =>
    cases p with
    | fld i =>
      simp only [Sh.step] at hp
      split at hp
      · rename_i s0 hs
        simp only [Option.some.injEq, Prod.mk.injEq] at hp
        obtain ⟨rfl, rfl⟩ := hp
        simp only [Rel] at h
        have h2 := Rels.get i h hs
        rw [hl] at h2
        simpa [D.getStep] using h2
      · cases hp
    | idx i => simp [Sh.step] at hp
  | arr n s =>
    cases p with
    | fld i => simp [Sh.step] at hp
    | idx i =>
      simp only [Sh.step, Option.some.injEq, Prod.mk.injEq] at hp
      obtain ⟨rfl, rfl⟩ := hp
      simp only [Rel] at h
      simp only [Sh.inStep] at hi
      refine ⟨h.2 i hi, ?_⟩
      simp only [Sh.size]
      calc i * s.size + s.size = (i + 1) * s.size := by rw [Nat.add_mul, Nat.one_mul]
        _ ≤ n * s.size := Nat.mul_le_mul_right _ hi
  | _ => simp [Sh.step] at hp

/-- Cells with others put in their middle. -/
def splice (vs : List Value) (off : Nat) (us : List Value) : List Value := vs.take off ++ us ++ vs.drop (off + us.length)

theorem splice_length (vs : List Value) (off : Nat) (us : List Value) (h : off + us.length ≤ vs.length) : (splice vs off us).length = vs.length := by
  simp [splice]; omega

theorem chunk_splice_same (vs us : List Value) (off : Nat) (h : off + us.length ≤ vs.length) : chunk (splice vs off us) off us.length = us := by
  have hl : (vs.take off).length = off := by simp; omega
  have : splice vs off us = vs.take off ++ (us ++ vs.drop (off + us.length)) := by simp [splice]
  rw [chunk, this, List.drop_left' hl]
  simp

theorem chunk_splice_other (vs us : List Value) (off o n : Nat) (h : off + us.length ≤ vs.length) (hd : o + n ≤ off ∨ off + us.length ≤ o) :
    chunk (splice vs off us) o n = chunk vs o n := by
  have hl : (vs.take off).length = off := by simp; omega
  have hs : splice vs off us = vs.take off ++ (us ++ vs.drop (off + us.length)) := by simp [splice]
  rcases hd with hd | hd
  · rw [chunk, hs, List.drop_append_of_le_length (by omega), List.take_append_of_le_length (by simp; omega), chunk, List.drop_take, List.take_take]
    congr 1; omega
  · have e : o = (vs.take off ++ us).length + (o - (off + us.length)) := by simp; omega
    have hs2 : splice vs off us = (vs.take off ++ us) ++ vs.drop (off + us.length) := by simp [splice]
    rw [chunk, hs2, e, List.drop_length_add_append, chunk, List.drop_drop]
    congr 2; simp; omega

theorem Rels.put {g : Ghost} {s : Sh} {v : D} {us : List Value} (hv : Rel g s v us) : ∀ {ss : List Sh} {i : Nat} {d : D} {vs : List Value} (k : Nat) (d' : D),
    Rels g ss i d vs → ss[k]? = some s → (∀ j, i ≤ j → j < i + ss.length → d'.nth j = if j = i + k then v else d.nth j) →
    Rels g ss i d' (splice vs (Sh.sizes (ss.take k)) us)
  | [], _, _, _, k, _, _, hk, _ => by simp at hk
  | s0 :: ss, i, d, vs, 0, d', h, hk, hd => by
    simp only [Rels] at h ⊢
    simp at hk
    subst hk
    have hul := hv.length
    have hlen : us.length ≤ vs.length := by omega
    simp only [List.take_zero, Sh.sizes]
    have e0 : d'.nth i = v := by rw [hd i (Nat.le_refl _) (by simp)]; simp
    have es : splice vs 0 us = us ++ vs.drop us.length := by simp [splice]
    refine ⟨?_, ?_, ?_⟩
    · rw [splice_length _ _ _ (by omega)]; exact h.1
    · rw [e0, es, List.take_left' hul]; exact hv
    · rw [es, List.drop_left' hul, hul]
      refine Rels.congr ?_ h.2.2
      intro j hj hj2
      rw [hd j (by omega) (by simp; omega), if_neg (by omega)]
  | s0 :: ss, i, d, vs, k + 1, d', h, hk, hd => by
    have hk' : ss[k]? = some s := by simpa using hk
    have hge := Rels.get k (by simp only [Rels] at h; exact h.2.2) hk'
    simp only [Rels] at h ⊢
    have hul := hv.length
    have hd2 := hge.2
    simp only [List.length_drop] at hd2
    simp only [List.take_succ_cons, Sh.sizes]
    have hlen : s0.size + Sh.sizes (ss.take k) + us.length ≤ vs.length := by omega
    have e0 : d'.nth i = d.nth i := by rw [hd i (Nat.le_refl _) (by simp), if_neg (by omega)]
    refine ⟨?_, ?_, ?_⟩
    · rw [splice_length _ _ _ hlen]; exact h.1
    · have := chunk_splice_other vs us (s0.size + Sh.sizes (ss.take k)) 0 s0.size hlen (.inl (by omega))
      simp only [chunk, List.drop_zero] at this
      rw [e0, this]; exact h.2.1
    · have e1 : (splice vs (s0.size + Sh.sizes (ss.take k)) us).drop s0.size = splice (vs.drop s0.size) (Sh.sizes (ss.take k)) us := by
        simp only [splice, List.append_assoc]
        rw [List.drop_append_of_le_length (by simp; omega), List.drop_take, List.drop_drop]
        have a1 : s0.size + Sh.sizes (ss.take k) - s0.size = Sh.sizes (ss.take k) := by omega
        have a2 : s0.size + (Sh.sizes (ss.take k) + us.length) = s0.size + Sh.sizes (ss.take k) + us.length := by omega
        rw [a1, a2]
      rw [e1]
      refine Rels.put hv k d' h.2.2 hk' ?_
      intro j hj hj2
      rw [hd j (by omega) (by simp; omega)]
      have : (j = i + (k + 1)) ↔ (j = i + 1 + k) := by omega
      simp only [this]
where
  Rels.congr {g : Ghost} : ∀ {ss : List Sh} {i : Nat} {d d' : D} {vs : List Value}, (∀ j, i ≤ j → j < i + ss.length → d'.nth j = d.nth j) → Rels g ss i d vs → Rels g ss i d' vs
    | [], _, _, _, _, _, h => by simpa only [Rels] using h
    | s :: ss, i, d, d', vs, hd, h => by
      simp only [Rels] at h ⊢
      refine ⟨h.1, ?_, Rels.congr (fun j h1 h2 => hd j (by omega) (by simp; omega)) h.2.2⟩
      rw [hd i (Nat.le_refl _) (by simp)]; exact h.2.1

theorem Rel.putStep {g : Ghost} {s s' : Sh} {d v : D} {vs us : List Value} {p : PS} {off : Nat} (h : Rel g s d vs) (hp : s.step p = some (s', off)) (hi : s.inStep p)
    (hv : Rel g s' v us) : Rel g s (d.putStep s p v) (splice vs off us) := by
  have hge := Rel.get h hp hi
  have hl := h.length
  have hul := hv.length
  cases s with
  | struct ss =>
    cases p with
    | fld i =>
      simp only [Sh.step] at hp
      split at hp
      · rename_i s0 hs
        simp only [Option.some.injEq, Prod.mk.injEq] at hp
        obtain ⟨rfl, rfl⟩ := hp
        simp only [Rel, D.putStep] at h ⊢
        refine Rels.put hv i _ h hs ?_
        intro j _ hj
        rw [ofNth_nth _ _ _ _ _ (by omega)]
        simp
      · cases hp
    | idx i => simp [Sh.step] at hp
  | arr n s =>
    cases p with
    | fld i => simp [Sh.step] at hp
    | idx i =>
      simp only [Sh.step, Option.some.injEq, Prod.mk.injEq] at hp
      obtain ⟨rfl, rfl⟩ := hp
      simp only [Rel, D.putStep] at h ⊢
      simp only [Sh.inStep] at hi
      have hb : i * s.size + us.length ≤ vs.length := by have := hge.2; omega
      refine ⟨by rw [splice_length _ _ _ hb]; exact h.1, ?_⟩
      intro j hj
      simp only [D.nth]
      by_cases e : j = i
      · subst e
        have e2 := chunk_splice_same vs us (j * s.size) hb
        rw [hul] at e2
        rw [e2]; simpa using hv
      · have hbf : Nat.beq j i = false := Bool.eq_false_iff.2 fun hh => e (Nat.eq_of_beq_eq_true hh)
        rw [chunk_splice_other vs us _ _ _ hb, hbf]
        · exact h.2 j hj
        · rcases Nat.lt_or_gt_of_ne e with h1 | h1
          · left
            calc j * s.size + s.size = (j + 1) * s.size := by rw [Nat.add_mul, Nat.one_mul]
              _ ≤ i * s.size := Nat.mul_le_mul_right _ h1
          · right
            rw [hul]
            calc i * s.size + s.size = (i + 1) * s.size := by rw [Nat.add_mul, Nat.one_mul]
              _ ≤ j * s.size := Nat.mul_le_mul_right _ h1
  | _ => simp [Sh.step] at hp

end Go.Vm
