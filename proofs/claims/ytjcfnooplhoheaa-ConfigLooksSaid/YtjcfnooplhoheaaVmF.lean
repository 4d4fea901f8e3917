/- Operations that only compute. -/
import Derived.Test.YtjcfnooplhoheaaVmE
noncomputable section
namespace Go.Vm
open Go

def kmin : IntKind → Int
  | .i8 => -128 | .i16 => -32768 | .i32 => -2147483648 | .i64 => -9223372036854775808 | _ => 0
def kmax : IntKind → Int
  | .i8 => 127 | .i16 => 32767 | .i32 => 2147483647 | .i64 => 9223372036854775807 | .u8 => 255 | .u16 => 65535 | .u32 => 4294967295 | .u64 => 18446744073709551615
theorem kmin_eq (k : IntKind) : kmin k = k.min := by cases k <;> decide
theorem kmax_eq (k : IntKind) : kmax k = k.max := by cases k <;> decide

/-- A constant. -/
def cv : Value → HV
  | .int k n => match Int.decLe (kmin k) n, Int.decLe n (kmax k) with
    | .isTrue _, .isTrue _ => .dat (.int k) (.I n)
    | _, _ => .und
  | .bool b => .dat .bool (.B b)
  | .string s => .dat .str (.S s)
  | .agg _ => .und
  | .tuple _ => .und
  | v => .cst v

theorem HRel.cst_mk {g : Ghost} {loc : Loc} {v : Value} (h : v.oneCell' = true) : HRel g loc (.cst v) v := by
  show ∃ us, HC g loc (.cst v) us ∧ v = mkV _ us
  exact ⟨[v], by simp only [HC]; exact ⟨trivial, h⟩, rfl⟩

theorem cv_rel (g : Ghost) (loc : Loc) (v : Value) : HRel g loc (cv v) v := by
  cases v with
  | int k n =>
    simp only [cv]
    split
    · rename_i h1 h2 _ _
      exact HRel.int_mk (by rw [← kmin_eq]; exact h1) (by rw [← kmax_eq]; exact h2)
    · exact trivial
  | bool b => exact HRel.bool_mk
  | string s => exact HRel.dat_iff.2 ⟨[.string s], by simp only [Rel, D.str], rfl⟩
  | agg _ => exact trivial
  | tuple _ => exact trivial
  | _ => exact HRel.cst_mk rfl

/-! ### Numbers -/
def bitsOp (op : BinOp) (k : IntKind) (x y : Int) : Int :=
  let a := BitVec.ofInt k.bits x
  let b := BitVec.ofInt k.bits y
  match op with
  | .and => k.wrap (a &&& b).toNat
  | .or => k.wrap (a ||| b).toNat
  | .xor => k.wrap (a ^^^ b).toNat
  | _ => k.wrap (a &&& ~~~b).toNat

def ltB (a b : Int) : Bool := decide (a < b)
def leB (a b : Int) : Bool := decide (a ≤ b)

def shl (k : IntKind) (x y : Int) : Int := k.wrap (x * 2 ^ (min y.toNat k.bits))
def shr (k : IntKind) (x y : Int) : Int := x.fdiv (2 ^ (min y.toNat k.bits))

/-- Two numbers of kind k; of the second's kind k' only shifts ask nothing. -/
def arith (op : BinOp) (k k' : IntKind) (a b : Int) : Option (HV × Option Prop) :=
  match op with
  | .shl => some (.dat (.int k) (.I (shl k a b)), some (0 ≤ b))
  | .shr => some (.dat (.int k) (.I (shr k a b)), some (0 ≤ b))
  | op => match decide (k = k') with
    | false => none
    | true => match op with
      | .add => some (.dat (.int k) (.I (k.wrap (a + b))), none)
      | .sub => some (.dat (.int k) (.I (k.wrap (a - b))), none)
      | .mul => some (.dat (.int k) (.I (k.wrap (a * b))), none)
      | .quo => some (.dat (.int k) (.I (k.wrap (a.tdiv b))), some (b ≠ 0))
      | .rem => some (.dat (.int k) (.I (a.tmod b)), some (b ≠ 0))
      | .and => some (.dat (.int k) (.I (bitsOp .and k a b)), none)
      | .or => some (.dat (.int k) (.I (bitsOp .or k a b)), none)
      | .xor => some (.dat (.int k) (.I (bitsOp .xor k a b)), none)
      | .andNot => some (.dat (.int k) (.I (bitsOp .andNot k a b)), none)
      | .eql => some (.dat .bool (.B (a == b)), none)
      | .neq => some (.dat .bool (.B (a != b)), none)
      | .lss => some (.dat .bool (.B (ltB a b)), none)
      | .leq => some (.dat .bool (.B (leB a b)), none)
      | .gtr => some (.dat .bool (.B (ltB b a)), none)
      | .geq => some (.dat .bool (.B (leB b a)), none)
      | _ => none

def holds : Option Prop → Prop
  | none => True
  | some p => p

theorem tmod_in {k : IntKind} {a b : Int} (h1 : k.min ≤ a) (h2 : a ≤ k.max) : k.min ≤ a.tmod b ∧ a.tmod b ≤ k.max := by
  have hk : k.min ≤ 0 ∧ 0 ≤ k.max := kind_zero k
  rcases Int.le_total 0 a with h | h
  · have h3 := Int.tmod_nonneg b h
    have h4 : a.tmod b ≤ a := by
      have := Int.natAbs_tmod a b
      have h5 : a.natAbs % b.natAbs ≤ a.natAbs := Nat.mod_le _ _
      omega
    omega
  · have h3 : a.tmod b ≤ 0 := by
      have := Int.tmod_nonneg b (show 0 ≤ -a by omega)
      rw [Int.neg_tmod] at this
      omega
    have h4 : a ≤ a.tmod b := by
      have := Int.natAbs_tmod a b
      have h5 : a.natAbs % b.natAbs ≤ a.natAbs := Nat.mod_le _ _
      omega
    omega

theorem fdiv_in {k : IntKind} {a : Int} (n : Nat) (h1 : k.min ≤ a) (h2 : a ≤ k.max) : k.min ≤ a.fdiv (2 ^ n) ∧ a.fdiv (2 ^ n) ≤ k.max := by
  have hk : k.min ≤ 0 ∧ 0 ≤ k.max := kind_zero k
  have hp : (0 : Int) < 2 ^ n := Int.pow_pos (by decide)
  rw [Int.fdiv_eq_ediv_of_nonneg _ (Int.le_of_lt hp)]
  rcases Int.le_total 0 a with h | h
  · have h3 := Int.ediv_nonneg h (Int.le_of_lt hp)
    have h4 : a / 2 ^ n ≤ a := Int.ediv_le_self _ h
    omega
  · have h3 : a / 2 ^ n ≤ 0 := by
      have := Int.ediv_le_ediv hp h
      simpa using this
    have h4 : a ≤ a / 2 ^ n := by
      rw [Int.le_ediv_iff_mul_le hp]
      have : (1 : Int) ≤ 2 ^ n := by omega
      have := Int.mul_le_mul_of_nonpos_left h this
      simpa using this
    omega

section
variable {P : Program} {g : Ghost} {loc : Loc}

theorem arith_run {op : BinOp} {k k' : IntKind} {a b : Int} {hv : HV} {pre : Option Prop} (h : arith op k k' a b = some (hv, pre)) (hp : holds pre)
    (ha : k.min ≤ a ∧ a ≤ k.max) (w : World) : ∃ v, (binOp op 0 (.int k a) (.int k' b)).run P w = .ok v w ∧ HRel g loc hv v := by
  unfold arith at h
  split at h
  · simp only [Option.some.injEq, Prod.mk.injEq] at h
    obtain ⟨rfl, rfl⟩ := h
    simp only [holds] at hp
    refine ⟨.int k (shl k a b), ?_, HRel.int_mk (wrap_in _ _).1 (wrap_in _ _).2⟩
    simp [binOp, Op.shift, shl, show ¬ b < 0 by omega]
  · simp only [Option.some.injEq, Prod.mk.injEq] at h
    obtain ⟨rfl, rfl⟩ := h
    simp only [holds] at hp
    refine ⟨.int k (shr k a b), ?_, HRel.int_mk (fdiv_in _ ha.1 ha.2).1 (fdiv_in _ ha.1 ha.2).2⟩
    simp [binOp, Op.shift, shr, show ¬ b < 0 by omega]
  · split at h
    · cases h
    · rename_i hk
      simp only [decide_eq_true_eq] at hk
      subst hk
      split at h <;> simp only [Option.some.injEq, Prod.mk.injEq, reduceCtorEq] at h <;> obtain ⟨rfl, rfl⟩ := h <;> simp only [holds] at hp
      · exact ⟨_, by simp only [binOp, ne_eq, not_true_eq_false, if_false, Op.intArith]; rfl, HRel.int_mk (wrap_in _ _).1 (wrap_in _ _).2⟩
      · exact ⟨_, by simp only [binOp, ne_eq, not_true_eq_false, if_false, Op.intArith]; rfl, HRel.int_mk (wrap_in _ _).1 (wrap_in _ _).2⟩
      · exact ⟨_, by simp only [binOp, ne_eq, not_true_eq_false, if_false, Op.intArith]; rfl, HRel.int_mk (wrap_in _ _).1 (wrap_in _ _).2⟩
      · exact ⟨_, by simp only [binOp, ne_eq, not_true_eq_false, if_false, Op.intDiv, hp]; rfl, HRel.int_mk (wrap_in _ _).1 (wrap_in _ _).2⟩
      · exact ⟨_, by simp only [binOp, ne_eq, not_true_eq_false, if_false, Op.intDiv, hp]; rfl, HRel.int_mk (tmod_in ha.1 ha.2).1 (tmod_in ha.1 ha.2).2⟩
      · exact ⟨_, by simp only [binOp, ne_eq, not_true_eq_false, if_false, Op.intBits]; rfl, HRel.int_mk (wrap_in _ _).1 (wrap_in _ _).2⟩
      · exact ⟨_, by simp only [binOp, ne_eq, not_true_eq_false, if_false, Op.intBits]; rfl, HRel.int_mk (wrap_in _ _).1 (wrap_in _ _).2⟩
      · exact ⟨_, by simp only [binOp, ne_eq, not_true_eq_false, if_false, Op.intBits]; rfl, HRel.int_mk (wrap_in _ _).1 (wrap_in _ _).2⟩
      · exact ⟨_, by simp only [binOp, ne_eq, not_true_eq_false, if_false, Op.intBits]; rfl, HRel.int_mk (wrap_in _ _).1 (wrap_in _ _).2⟩
      all_goals exact ⟨_, by simp only [binOp, ne_eq, not_true_eq_false, if_false, Op.intCmp]; rfl, HRel.bool_mk⟩

theorem binOp_int_ty (op : BinOp) (t t' : TypeId) (k k' : IntKind) (a b : Int) : binOp op t (.int k a) (.int k' b) = binOp op t' (.int k a) (.int k' b) := by
  cases op <;> simp only [binOp]
end
end Go.Vm
