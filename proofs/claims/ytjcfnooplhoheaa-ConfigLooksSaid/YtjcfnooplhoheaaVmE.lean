/- The layout of a program's types; loads, stores and new variables run. -/
import Derived.Test.YtjcfnooplhoheaaVmD
noncomputable section
namespace Go.Vm
open Go

def TyOK (P : Program) (t : TypeId) (s : Sh) : Prop := ∃ i, P.info? t = some i ∧ i.size = s.size ∧ i.zero = some (mkV s.agg (zcells s)) ∧ i.bytes ≤ 65536

mutual
/-- A type of the program lies as this shape says. -/
def Lay (P : Program) : Sh → TypeId → Prop
  | .int k, t => TyOK P t (.int k) ∧ P.underlying t = some (.int k)
  | .bool, t => TyOK P t .bool ∧ P.underlying t = some .bool
  | .str, t => TyOK P t .str ∧ P.underlying t = some .string
  | .struct ss, t => TyOK P t (.struct ss) ∧ (∃ fs, P.underlying t = some (.struct fs) ∧ Lays P ss 0 fs.toList) ∧ P.eqGuardType P.depth t = false ∧ P.stoodInHeld t = false
  | .arr n s, t => TyOK P t (.arr n s) ∧ (∃ e, P.underlying t = some (.array n e) ∧ Lay P s e) ∧ P.eqGuardType P.depth t = false
  | .slice s, t => TyOK P t (.slice s) ∧ ∃ e, P.underlying t = some (.slice e) ∧ Lay P s e
  | .ref, _ => False
def Lays (P : Program) : List Sh → Nat → List Field → Prop
  | [], _, [] => True
  | s :: ss, off, f :: fs => f.offset = off ∧ f.name ≠ "_" ∧ 0 < s.size ∧ Lay P s f.type ∧ Lays P ss (off + s.size) fs
  | _, _, _ => False
end

/-- A type whose values are single cells that the evaluator does not look into (functions, pointers, maps): its zero value. -/
def RefLay (P : Program) (t : TypeId) (z : Value) : Prop :=
  (∃ i, P.info? t = some i ∧ i.size = 1 ∧ i.zero = some z) ∧ z.oneCell' = true ∧ ∃ d, P.underlying t = some d ∧ (match d with | .struct _ | .array _ _ => true | _ => false) = false

/-! ### A check by computation -/
def valB : Value → Value → Bool
  | .int k n, .int k' m => decide (k = k') && decide (n = m)
  | .bool a, .bool b => a == b
  | .string a, .string b => Nat.beq a.size 0 && Nat.beq b.size 0
  | .slice none 0 0, .slice none 0 0 => true
  | _, _ => false
def valsB : List Value → List Value → Bool
  | [], [] => true
  | a :: as, b :: bs => valB a b && valsB as bs
  | _, _ => false
def zeroB (v : Value) (s : Sh) : Bool := match s.agg, v with
  | true, .agg cs => valsB cs.toList (zcells s)
  | true, _ => false
  | false, v => match zcells s with
    | [z] => valB v z
    | _ => false

theorem size_zero_bytes {a b : ByteArray} (h1 : a.size = 0) (h2 : b.size = 0) : a = b := by
  cases a with | mk x => cases b with | mk y =>
  simp [ByteArray.size] at h1 h2
  simp [h1, h2]
theorem valB_eq {a b : Value} (h : valB a b = true) : a = b := by
  unfold valB at h
  split at h
  · simp only [Bool.and_eq_true, decide_eq_true_eq] at h; rw [h.1, h.2]
  · simp only [beq_iff_eq] at h; rw [h]
  · simp only [Bool.and_eq_true] at h; rw [size_zero_bytes (Nat.eq_of_beq_eq_true h.1) (Nat.eq_of_beq_eq_true h.2)]
  · rfl
  · cases h
theorem valsB_eq : ∀ {a b : List Value}, valsB a b = true → a = b
  | [], [], _ => rfl
  | a :: as, b :: bs, h => by simp only [valsB, Bool.and_eq_true] at h; rw [valB_eq h.1, valsB_eq h.2]
  | [], _ :: _, h => by simp [valsB] at h
  | _ :: _, [], h => by simp [valsB] at h
theorem zeroB_eq {v : Value} {s : Sh} (h : zeroB v s = true) : v = mkV s.agg (zcells s) := by
  unfold zeroB at h
  split at h
  · rename_i ha; rw [ha, ← valsB_eq h]; simp [mkV]
  · cases h
  · rename_i ha
    split at h
    · rename_i hz; rw [ha, hz, valB_eq h]; simp [mkV]
    · cases h

def tyB (P : Program) (t : TypeId) (s : Sh) : Bool := match P.info? t with
  | some i => Nat.beq i.size s.size && Nat.ble i.bytes 65536 && match i.zero with
    | some z => zeroB z s
    | none => false
  | none => false

theorem tyB_ok {P : Program} {t : TypeId} {s : Sh} (h : tyB P t s = true) : TyOK P t s := by
  unfold tyB at h
  split at h
  · rename_i i hi
    simp only [Bool.and_eq_true] at h
    split at h
    · rename_i z hz
      exact ⟨i, hi, Nat.eq_of_beq_eq_true h.1.1, by rw [hz, zeroB_eq h.2], Nat.le_of_ble_eq_true h.1.2⟩
    · cases h.2
  · cases h

mutual
def layB (P : Program) : Sh → TypeId → Bool
  | .int k, t => tyB P t (.int k) && match P.underlying t with | some (.int k') => decide (k' = k) | _ => false
  | .bool, t => tyB P t .bool && match P.underlying t with | some .bool => true | _ => false
  | .str, t => tyB P t .str && match P.underlying t with | some .string => true | _ => false
  | .struct ss, t => tyB P t (.struct ss) && (match P.underlying t with | some (.struct fs) => laysB P ss 0 fs.toList | _ => false) && !P.eqGuardType P.depth t && !P.stoodInHeld t
  | .arr n s, t => tyB P t (.arr n s) && (match P.underlying t with | some (.array m e) => Nat.beq m n && layB P s e | _ => false) && !P.eqGuardType P.depth t
  | .slice s, t => tyB P t (.slice s) && match P.underlying t with | some (.slice e) => layB P s e | _ => false
  | .ref, _ => false
def laysB (P : Program) : List Sh → Nat → List Field → Bool
  | [], _, [] => true
  | s :: ss, off, f :: fs => Nat.beq f.offset off && !(f.name == "_") && Nat.blt 0 s.size && layB P s f.type && laysB P ss (off + s.size) fs
  | _, _, _ => false
end

mutual
theorem layB_ok {P : Program} : ∀ {s : Sh} {t : TypeId}, layB P s t = true → Lay P s t
  | .int k, t, h => by
    simp only [layB, Bool.and_eq_true] at h
    obtain ⟨h1, h2⟩ := h
    split at h2
    · rename_i k' hu; simp only [decide_eq_true_eq] at h2; subst h2
      simp only [Lay]; exact ⟨tyB_ok h1, hu⟩
    · cases h2
  | .bool, t, h => by
    simp only [layB, Bool.and_eq_true] at h
    obtain ⟨h1, h2⟩ := h
    split at h2
    · rename_i hu; simp only [Lay]; exact ⟨tyB_ok h1, hu⟩
    · cases h2
  | .str, t, h => by
    simp only [layB, Bool.and_eq_true] at h
    obtain ⟨h1, h2⟩ := h
    split at h2
    · rename_i hu; simp only [Lay]; exact ⟨tyB_ok h1, hu⟩
    · cases h2
  | .struct ss, t, h => by
    simp only [layB, Bool.and_eq_true, Bool.not_eq_true'] at h
    obtain ⟨⟨⟨h1, h2⟩, h3⟩, h4⟩ := h
    split at h2
    · rename_i fs hu
      simp only [Lay]; exact ⟨tyB_ok h1, ⟨fs, hu, laysB_ok h2⟩, h3, h4⟩
    · cases h2
  | .arr n s, t, h => by
    simp only [layB, Bool.and_eq_true, Bool.not_eq_true'] at h
    obtain ⟨⟨h1, h2⟩, h3⟩ := h
    split at h2
    · rename_i m e hu
      simp only [Bool.and_eq_true] at h2
      have := Nat.eq_of_beq_eq_true h2.1
      subst this
      simp only [Lay]; exact ⟨tyB_ok h1, ⟨e, hu, layB_ok h2.2⟩, h3⟩
    · cases h2
  | .slice s, t, h => by
    simp only [layB, Bool.and_eq_true] at h
    obtain ⟨h1, h2⟩ := h
    split at h2
    · rename_i e hu
      simp only [Lay]; exact ⟨tyB_ok h1, e, hu, layB_ok h2⟩
    · cases h2
  | .ref, _, h => by simp [layB] at h
theorem laysB_ok {P : Program} : ∀ {ss : List Sh} {off : Nat} {fs : List Field}, laysB P ss off fs = true → Lays P ss off fs
  | [], _, [], _ => by simp only [Lays]
  | s :: ss, off, f :: fs, h => by
    simp only [laysB, Bool.and_eq_true, Bool.not_eq_true', beq_eq_false_iff_ne] at h
    obtain ⟨⟨⟨⟨h1, h2⟩, h3⟩, h4⟩, h5⟩ := h
    simp only [Lays]
    exact ⟨Nat.eq_of_beq_eq_true h1, h2, Nat.lt_of_lt_of_le Nat.zero_lt_one (by simpa [Nat.blt] using h3), layB_ok h4, laysB_ok h5⟩
  | [], _, _ :: _, h => by simp [laysB] at h
  | _ :: _, _, [], h => by simp [laysB] at h
end

def refB (P : Program) (t : TypeId) (z : Value) : Bool :=
  (match P.info? t with
  | some i => Nat.beq i.size 1 && match i.zero, z with
    | some (.pointer none), .pointer none => true
    | some .nilFunc, .nilFunc => true
    | some (.map none), .map none => true
    | some .nilIface, .nilIface => true
    | _, _ => false
  | none => false) && match P.underlying t with
  | some (.struct _) | some (.array _ _) | none => false
  | _ => true

theorem refB_ok {P : Program} {t : TypeId} {z : Value} (h : refB P t z = true) : RefLay P t z := by
  unfold refB at h
  simp only [Bool.and_eq_true] at h
  obtain ⟨h1, h2⟩ := h
  split at h1
  · rename_i i hi
    simp only [Bool.and_eq_true] at h1
    obtain ⟨h3, h4⟩ := h1
    refine ⟨⟨i, hi, Nat.eq_of_beq_eq_true h3, ?_⟩, ?_, ?_⟩
    · split at h4 <;> first | assumption | cases h4
    · split at h4 <;> first | rfl | cases h4
    · cases hd : P.underlying t with
      | none => simp [hd] at h2
      | some d => exact ⟨d, rfl, by cases d <;> simp_all⟩
  · cases h1

/-! ### What a layout gives -/
section
variable {P : Program}

/-- The size of a type, and whether its values are of many cells. -/
def Plain (P : Program) (t : TypeId) (n : Nat) (agg : Bool) : Prop :=
  (∃ i, P.info? t = some i ∧ i.size = n) ∧ ∃ d, P.underlying t = some d ∧ (match d with | .struct _ | .array _ _ => true | _ => false) = agg

theorem Lay.ty {s : Sh} {t : TypeId} (h : Lay P s t) : TyOK P t s := by
  cases s <;> simp only [Lay] at h <;> first | exact h.1 | exact h.elim

theorem Lay.plain {s : Sh} {t : TypeId} (h : Lay P s t) : Plain P t s.size s.agg := by
  obtain ⟨i, h1, h2, _⟩ := h.ty
  refine ⟨⟨i, h1, h2⟩, ?_⟩
  cases s <;> simp only [Lay] at h
  case int => exact ⟨_, h.2, rfl⟩
  case bool => exact ⟨_, h.2, rfl⟩
  case str => exact ⟨_, h.2, rfl⟩
  case struct => obtain ⟨_, ⟨fs, h, _⟩, _⟩ := h; exact ⟨_, h, rfl⟩
  case arr => obtain ⟨_, ⟨e, h, _⟩, _⟩ := h; exact ⟨_, h, rfl⟩
  case slice => obtain ⟨_, e, h, _⟩ := h; exact ⟨_, h, rfl⟩

theorem RefLay.plain {z : Value} {t : TypeId} (h : RefLay P t z) : Plain P t 1 false := by
  obtain ⟨⟨i, h1, h2, _⟩, _, d, h3, h4⟩ := h
  exact ⟨⟨i, h1, h2⟩, d, h3, h4⟩

theorem run_isAgg {t : TypeId} {n : Nat} {agg : Bool} (h : Plain P t n agg) (w : World) : (isAgg t).run P w = .ok agg w := by
  obtain ⟨_, d, h1, h2⟩ := h
  unfold isAgg
  rw [Sem.run_bind, run_underlying h1 w]
  cases d <;> simp_all

theorem run_size {t : TypeId} {n : Nat} {agg : Bool} (h : Plain P t n agg) (w : World) : (sizeOf t).run P w = .ok n w := by
  obtain ⟨⟨i, h1, h2⟩, _⟩ := h
  simp [sizeOf, typeInfo, h1, h2]

theorem run_zero {t : TypeId} {z : Value} (h : ∃ i, P.info? t = some i ∧ i.zero = some z) (w : World) : (zeroValue t).run P w = .ok z w := by
  obtain ⟨i, h1, h2⟩ := h
  simp [zeroValue, typeInfo, h1, h2]

theorem addr_add (b off i : Nat) : (⟨b, off, none⟩ : Addr).add i = ⟨b, off + i, none⟩ := by unfold Addr.add; split <;> simp_all

theorem cell_at {w : World} {b off : Nat} {cs : Array Value} {T : TypeId} {fr : Nat × Nat} (h : w.heap[b]? = some (.cells cs T fr)) : w.cell? ⟨b, off, none⟩ = cs[off]? := by
  simp [World.cell?, h]

theorem run_loadVar_chunk {t : TypeId} {n : Nat} {agg : Bool} (hp : Plain P t n agg) (h1 : agg = false → n = 1) {w : World} {b off : Nat} {cs : Array Value} {T : TypeId} {fr : Nat × Nat}
    (hb : w.heap[b]? = some (.cells cs T fr)) (ho : off + n ≤ cs.size) : (loadVar t ⟨b, off, none⟩).run P w = .ok (mkV agg (chunk cs.toList off n)) w := by
  cases agg with
  | true =>
    have hl : (chunk cs.toList off n).length = n := chunk_length _ _ _ (by simpa using ho)
    have hload := run_loadCells_list (P := P) w ⟨b, off, none⟩ (chunk cs.toList off n) (fun j v hv => by
      rw [addr_add, cell_at hb]
      simp only [chunk, List.getElem?_take, List.getElem?_drop] at hv
      split at hv
      · simpa using hv
      · cases hv)
    rw [hl] at hload
    simp [loadVar, run_isAgg hp, run_size hp, hload, mkV]
  | false =>
    have hn := h1 rfl
    subst hn
    have hlt : off < cs.size := by omega
    have hc : w.cell? ⟨b, off, none⟩ = some cs[off] := by rw [cell_at hb]; simp [hlt]
    simp [loadVar, run_isAgg hp, hc, mkV, chunk]
    have : (List.take 1 (List.drop off cs.toList)).head? = some cs[off] := by
      rw [List.head?_take, if_neg (by omega), List.head?_drop]; simp [hlt]
    cases hd : List.take 1 (List.drop off cs.toList) with
    | nil => rw [hd] at this; cases this
    | cons x xs => rw [hd] at this; simp at this; simp [this]

theorem run_storeVar_chunk {t : TypeId} {n : Nat} {agg : Bool} (hp : Plain P t n agg) {w : World} {b off : Nat} {cs : Array Value} {T : TypeId} {v : Value}
    (hb : w.heap[b]? = some (.cells cs T (0, 0))) (ho : off + n ≤ cs.size) (hv : v.cells.size = n) (hone : ∀ x ∈ v.cells.toList, x.oneCell' = true) :
    (storeVar t ⟨b, off, none⟩ v).run P w = .ok () (w.setRow b (splice cs.toList off v.cells.toList).toArray) := by
  have hs := run_storeCells_at P b off T v.cells.toList 0 cs w hb (by simp; omega) hone
  have e : (storeVar t ⟨b, off, none⟩ v).run P w = (storeCells ⟨b, off, none⟩ v.cells.toList 0).run P w := by
    simp [storeVar, run_size hp, hv]
  rw [e, hs]
  simp only [splice, Nat.add_zero]

theorem setRow_other (w : World) (b : Nat) (c : Array Value) (k : Nat) (h : k ≠ b) : (w.setRow b c).heap[k]? = w.heap[k]? := by
  simp only [World.setRow]
  rw [Array.getElem?_modify]
  split
  · rename_i e; exact absurd e.symm h
  · rfl
theorem setRow_same {w : World} {b : Nat} {cs : Array Value} {T : TypeId} (c : Array Value) (h : w.heap[b]? = some (.cells cs T (0, 0))) : (w.setRow b c).heap[b]? = some (.cells c T (0, 0)) := by
  simp only [World.setRow]
  rw [Array.getElem?_modify]
  simp [h]
theorem setRow_size (w : World) (b : Nat) (c : Array Value) : (w.setRow b c).heap.size = w.heap.size := by simp [World.setRow]
end

/-! ### The kinds of numbers -/
theorem wrap_in (k : IntKind) (n : Int) : k.min ≤ k.wrap n ∧ k.wrap n ≤ k.max := by
  cases k <;> simp only [IntKind.wrap, IntKind.min, IntKind.max, IntKind.signed, IntKind.bits] <;> simp <;> (try split) <;> omega

end Go.Vm
