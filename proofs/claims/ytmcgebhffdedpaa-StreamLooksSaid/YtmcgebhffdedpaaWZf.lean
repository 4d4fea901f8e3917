/- Accounts of the library's sort of labels: patterns broken. -/
import Derived.Test.YtmcgebhffdedpaaWZe
namespace Go.Proofs.Ytmcgebhffdedpaa
open Go Go.Vm
set_option linter.unusedSimpArgs false
set_option linter.unusedVariables false
set_option maxRecDepth 10000
theorem bitsLen_shift {X s : Nat} (h : 2 ^ s ≤ X) : Go.Sort.bitsLen (X / 2 ^ s) + s = Go.Sort.bitsLen X := by
  have key : ∀ k, Go.Sort.bitsLen (X / 2 ^ s) + s ≤ k ↔ Go.Sort.bitsLen X ≤ k := by
    intro k
    rw [Go.Sort.bitsLen_le_iff X k]
    rcases Nat.lt_or_ge k s with hk | hk
    · have h1 : 2 ^ k ≤ 2 ^ s := Nat.pow_le_pow_right (by decide) (Nat.le_of_lt hk)
      constructor
      · intro h2; omega
      · intro h2; omega
    · obtain ⟨m, rfl⟩ : ∃ m, k = m + s := ⟨k - s, by omega⟩
      rw [Nat.add_le_add_iff_right, Go.Sort.bitsLen_le_iff, Nat.div_lt_iff_lt_mul (Nat.two_pow_pos s), ← Nat.pow_add]
  exact Nat.le_antisymm ((key _).2 (Nat.le_refl _)) ((key _).1 (Nat.le_refl _))
def tabB8 (T : ByteArray) : Bool := T.size == 256 && (List.range 256).all fun n => strAt T (n : Int) == (Go.Sort.bitsLen n : Int)
theorem tab8_ix {T : ByteArray} {v : Int} {n : Nat} (hT : tabB8 T = true) (e : v = n) (h : n < 256) : 0 ≤ v ∧ v < (T.size : Int) := by
  simp only [tabB8, Bool.and_eq_true, beq_iff_eq] at hT
  rw [hT.1, e]; omega
theorem tab8_val {T : ByteArray} {v : Int} {n : Nat} (hT : tabB8 T = true) (e : v = n) (h : n < 256) : strAt T v = (Go.Sort.bitsLen n : Int) := by
  simp only [tabB8, Bool.and_eq_true, List.all_eq_true, beq_iff_eq] at hT
  rw [e]; exact hT.2 n (by simpa using h)
theorem shrN (X k : Nat) (hk : k ≤ 64) : shr .u64 (X : Int) (k : Int) = ((X / 2 ^ k : Nat) : Int) := by
  have e : min k 64 = k := by omega
  show (X : Int).fdiv (2 ^ min k 64) = _
  rw [e, Int.fdiv_eq_ediv_of_nonneg _ (Int.le_of_lt (Int.pow_pos (by decide)))]
  rw [Int.natCast_ediv, Int.natCast_pow]; rfl
theorem w8 {a : Int} {n : Nat} (e : a = n) (h : n < 256) : IntKind.u8.wrap a = (n : Int) := by
  subst e
  simp only [IntKind.wrap, IntKind.signed, IntKind.bits]; simp; omega
theorem bitsLen_20 {n : Nat} (h : n ≤ 1000000) : Go.Sort.bitsLen n ≤ 20 := (Go.Sort.bitsLen_le_iff n 20).2 (by omega)
def sLen : Sum := ⟨[u64], fun
  | [x] => some (0 ≤ x.int ∧ x.int ≤ 1000000)
  | _ => some False, fun
  | [x] => .dat i64 (.I (Go.Sort.bitsLen (natD x)))
  | _ => .und⟩
def cLen : Ctx := ⟨tabS, [], [], [], keep, []⟩
theorem len_val {T : ByteArray} {v : Int} {n m k : Nat} (hT : tabB8 T = true) (e : v = n) (h : n < 256) (hk : k ≤ 100) (hs : Go.Sort.bitsLen n + k = m) (hm : m ≤ 20) {c : Int} (hc : c = k) : IntKind.i64.wrap (c + IntKind.i64.wrap (strAt T v)) = (m : Int) := by
  rw [tab8_val hT e h, hc, w64 (a := (Go.Sort.bitsLen n : Int)) (n := Go.Sort.bitsLen n) rfl (by omega)]
  exact w64 (by omega) (by omega)
theorem len64_fun : FunOK cLen 60 Try.f55 sLen := fun x hx h => by
  replace h : 0 ≤ x.int ∧ x.int ≤ 1000000 := h
  obtain ⟨X, hX, hX'⟩ := natD_of (a := x) h.1
  have hm := bitsLen_20 (n := X) (by omega)
  have e16 : shr .u64 x.int 16 = ((X / 2 ^ 16 : Nat) : Int) := by rw [hX]; exact shrN X 16 (by decide)
  have e8 : shr .u64 x.int 8 = ((X / 2 ^ 8 : Nat) : Int) := by rw [hX]; exact shrN X 8 (by decide)
  refine ⟨fun h1 => ?_, fun _ => ⟨fun h2 => ⟨by decide, fun h3 => ?_, fun h3 => ?_⟩, fun h2 => ⟨fun h3 => ?_, fun h3 => ?_⟩⟩⟩
  · replace h1 : leB 4294967296 x.int = true := h1
    rw [leB_true] at h1; omega
  · replace h3 : leB 256 (shr .u64 x.int 16) = true := h3
    rw [e16, leB_true] at h3; omega
  · replace h2 : leB 65536 x.int = true := h2
    rw [leB_true] at h2
    have b : X / 2 ^ 16 < 256 := by omega
    have v := w8 e16 b
    refine ⟨tab8_ix (by kernel_rfl) v b, Bears.int ?_⟩
    rw [hX']
    exact len_val (k := 16) (by kernel_rfl) v b (by decide) (bitsLen_shift (by omega)) hm (by decide)
  · replace h2 : leB 65536 x.int = false := h2
    rw [leB_false] at h2
    replace h3 : leB 256 x.int = true := h3
    rw [leB_true] at h3
    have b : X / 2 ^ 8 < 256 := by omega
    have v := w8 e8 b
    refine ⟨by decide, tab8_ix (by kernel_rfl) v b, Bears.int ?_⟩
    rw [hX']
    exact len_val (k := 8) (by kernel_rfl) v b (by decide) (bitsLen_shift (by omega)) hm (by decide)
  · replace h3 : leB 256 x.int = false := h3
    rw [leB_false] at h3
    have b : X < 256 := by omega
    have v := w8 hX b
    refine ⟨tab8_ix (by kernel_rfl) v b, Bears.int ?_⟩
    rw [hX']
    exact len_val (k := 0) (by kernel_rfl) v b (by decide) rfl hm (by decide)
noncomputable def cLen1 : Ctx := ⟨tabS, [], [(55, sLen)], [], keep, []⟩
theorem len_fun : FunOK cLen1 60 Try.f43 sLen := fun x hx h => by
  replace h : 0 ≤ x.int ∧ x.int ≤ 1000000 := h
  exact ⟨fun h1 => (by cases h1), fun _ => ⟨h, Bears.int rfl⟩⟩
def sPow : Sum := ⟨[i64], fun
  | [x] => some (1 ≤ x.int ∧ x.int ≤ 1000000)
  | _ => some False, fun
  | [x] => .dat u64 (.I (2 ^ Go.Sort.bitsLen (natD x)))
  | _ => .und⟩
noncomputable def cPow : Ctx := ⟨tabS, [], [(43, sLen)], [], keep, []⟩
theorem pow_fun : FunOK cPow 60 Try.f57 sPow := fun x hx h => by
  replace h : 1 ≤ x.int ∧ x.int ≤ 1000000 := h
  obtain ⟨X, hX, hX'⟩ := natD_of (a := x) (by omega)
  have hw : IntKind.u64.wrap x.int = (X : Int) := by rw [hX]; exact wrap_u64 (by omega) (by omega)
  have hn : natD (D.I (IntKind.u64.wrap x.int)) = X := by show (IntKind.u64.wrap x.int).toNat = X; rw [hw]; rfl
  have hm := bitsLen_20 (n := X) (by omega)
  refine ⟨?_, Int.natCast_nonneg _, Bears.int ?_⟩
  · show 0 ≤ IntKind.u64.wrap x.int ∧ IntKind.u64.wrap x.int ≤ 1000000
    rw [hw]; omega
  · show shl .u64 1 (Go.Sort.bitsLen (natD (D.I (IntKind.u64.wrap x.int))) : Int) = 2 ^ Go.Sort.bitsLen (natD x)
    rw [hn, hX']
    have e : min (Go.Sort.bitsLen X) 64 = Go.Sort.bitsLen X := by omega
    show IntKind.u64.wrap (1 * 2 ^ min (Go.Sort.bitsLen X) 64) = _
    rw [e, Int.one_mul]
    have h1 : 2 ^ Go.Sort.bitsLen X ≤ 2 ^ 20 := Nat.pow_le_pow_right (by decide) hm
    have h2 : ((2 ^ Go.Sort.bitsLen X : Nat) : Int) = 2 ^ Go.Sort.bitsLen X := by rw [Int.natCast_pow]; rfl
    have h0 := Nat.two_pow_pos (Go.Sort.bitsLen X)
    rw [← h2]
    exact wrap_u64 (by omega) (by omega)
def nxt (r : Int) : Int := bitsOp .xor .u64 (bitsOp .xor .u64 (bitsOp .xor .u64 r (shl .u64 r 13)) (shr .u64 (bitsOp .xor .u64 r (shl .u64 r 13)) 7)) (shl .u64 (bitsOp .xor .u64 (bitsOp .xor .u64 r (shl .u64 r 13)) (shr .u64 (bitsOp .xor .u64 r (shl .u64 r 13)) 7)) 17)
def sNxt : PSum := ⟨[], u64, fun ds x => match ds with
  | [] => none
  | _ => some False, fun ds x => match ds with
  | [] => .dat u64 (.I (nxt x.int))
  | _ => .und, fun ds x => match ds with
  | [] => .I (nxt x.int)
  | _ => .Z⟩
def tabX : List (Nat × Sh) := (78, u64) :: tabS
noncomputable def cNx : Ctx := ⟨tabX, [], [], [], keep, []⟩
theorem nxt_fun : FunPOK cNx 60 Try.f58 sNxt := fun x hx h => by
  exact ⟨(show (0 : Int) ≤ 13 by decide), by kernel_rfl, (show (0 : Int) ≤ 7 by decide), by kernel_rfl, (show (0 : Int) ≤ 17 by decide), by kernel_rfl, ⟨⟨rfl, rfl⟩, Bears.int rfl⟩, Bears.int rfl⟩
def othI (L M r : Int) : Int := if leB L (IntKind.i64.wrap (bitsOp .and .u64 r (IntKind.u64.wrap (M - 1)))) = true then IntKind.i64.wrap (IntKind.i64.wrap (bitsOp .and .u64 r (IntKind.u64.wrap (M - 1))) - L) else IntKind.i64.wrap (bitsOp .and .u64 r (IntKind.u64.wrap (M - 1)))
theorem and_le {r y : Int} (h1 : 0 ≤ y) (h2 : y < 1000000000) : 0 ≤ bitsOp .and .u64 r y ∧ bitsOp .and .u64 r y ≤ y := by
  obtain ⟨n, rfl⟩ : ∃ n : Nat, y = n := ⟨y.toNat, by omega⟩
  have e : (BitVec.ofInt 64 (n : Int)).toNat = n := by
    simp only [BitVec.toNat_ofInt]; omega
  have h : (BitVec.ofInt 64 r &&& BitVec.ofInt 64 (n : Int)).toNat ≤ n := by
    rw [BitVec.toNat_and]
    exact Nat.le_trans Nat.and_le_right (Nat.le_of_eq e)
  show 0 ≤ IntKind.u64.wrap ((BitVec.ofInt 64 r &&& BitVec.ofInt 64 (n : Int)).toNat : Int) ∧ IntKind.u64.wrap ((BitVec.ofInt 64 r &&& BitVec.ofInt 64 (n : Int)).toNat : Int) ≤ (n : Int)
  rw [wrap_u64 (by omega) (by omega)]
  omega
/-- The masked number, and what is made of it. -/
theorem mask_in {L : Nat} {r : Int} (h8 : 8 ≤ L) (hL : L ≤ 1000000) : ∃ o : Nat, IntKind.i64.wrap (bitsOp .and .u64 r (IntKind.u64.wrap ((2 : Int) ^ Go.Sort.bitsLen L - 1))) = (o : Int) ∧ o < 2 * L := by
  have h1 := Go.Sort.two_pow_bitsLen_le (n := L) (by omega)
  have h0 := Nat.two_pow_pos (Go.Sort.bitsLen L)
  have h2 : ((2 ^ Go.Sort.bitsLen L : Nat) : Int) = 2 ^ Go.Sort.bitsLen L := by rw [Int.natCast_pow]; rfl
  rw [← h2, wrap_u64 (by omega) (by omega)]
  have h3 := and_le (r := r) (y := ((2 ^ Go.Sort.bitsLen L : Nat) : Int) - 1) (by omega) (by omega)
  refine ⟨(bitsOp .and .u64 r (((2 ^ Go.Sort.bitsLen L : Nat) : Int) - 1)).toNat, ?_, by omega⟩
  rw [wrap_i64 (by omega) (by omega)]; omega
def brkSt (A L : Nat) (s : Int × Array Int) (idx : Nat) : Int × Array Int := (nxt s.1, Go.Sort.swp s.2 idx (A + (othI L (2 ^ Go.Sort.bitsLen L) (nxt s.1)).toNat))
def brkN (A L : Nat) : Nat → Nat → Int × Array Int → Int × Array Int
  | 0, _, s => s
  | n + 1, idx, s => brkN A L n (idx + 1) (brkSt A L s idx)
def brk (d : Array Int) (A B : Nat) : Array Int := if 8 ≤ B - A then (brkN A (B - A) 3 (A + (B - A) / 4 * 2 - 1) ((B - A : Nat), d)).2 else d
theorem oth_in {L : Nat} {r : Int} (h8 : 8 ≤ L) (hL : L ≤ 1000000) : ∃ o : Nat, othI L (2 ^ Go.Sort.bitsLen L) r = (o : Int) ∧ o < L := by
  obtain ⟨o, e, h⟩ := mask_in (r := r) h8 hL
  rw [othI, e]
  by_cases hc : L ≤ o
  · rw [if_pos (by rw [leB_true]; omega)]
    refine ⟨o - L, ?_, by omega⟩
    exact w64 (by omega) (by omega)
  · rw [if_neg (by rw [leB_true]; omega)]
    exact ⟨o, rfl, by omega⟩
theorem brkN_perm {A L : Nat} (h8 : 8 ≤ L) (hL : L ≤ 1000000) : ∀ (n idx : Nat) (s : Int × Array Int), A ≤ idx → idx + n ≤ A + L → A + L ≤ s.2.size → Go.Sort.PermIn A (A + L) s.2 (brkN A L n idx s).2
  | 0, _, s, _, _, _ => Go.Sort.permIn_refl _ _ _
  | n + 1, idx, s, h1, h2, h3 => by
    obtain ⟨o, e, ho⟩ := oth_in (r := nxt s.1) h8 hL
    have e' : (othI L (2 ^ Go.Sort.bitsLen L) (nxt s.1)).toNat = o := by rw [e]; rfl
    have p1 : Go.Sort.PermIn A (A + L) s.2 (brkSt A L s idx).2 := by
      show Go.Sort.PermIn A (A + L) s.2 (Go.Sort.swp s.2 idx (A + (othI L (2 ^ Go.Sort.bitsLen L) (nxt s.1)).toNat))
      rw [e']
      exact Go.Sort.swp_permIn _ _ _ _ _ h1 (by omega) (by omega) (by omega) h3
    exact Go.Sort.permIn_trans _ _ _ _ _ p1 (brkN_perm h8 hL n (idx + 1) _ (by omega) (by omega) (by rw [p1.1]; exact h3))
theorem brk_perm {d : Array Int} {A B : Nat} (h1 : A ≤ B) (h2 : B ≤ d.size) (h3 : d.size ≤ 1000000) : Go.Sort.PermIn A B d (brk d A B) := by
  rw [brk]
  split
  · have h := brkN_perm (A := A) (L := B - A) (by omega) (by omega) 3 (A + (B - A) / 4 * 2 - 1) ((B - A : Nat), d) (by omega) (by omega) (by show A + (B - A) ≤ d.size; omega)
    have e : A + (B - A) = B := by omega
    rw [e] at h
    exact h
  · exact Go.Sort.permIn_refl _ _ _
def mBrk : MSum := mSeg (fun a b n => a ≤ b ∧ b ≤ n) brk
noncomputable def cBrk : Ctx := ⟨tabX, [], [(57, sPow)], [], keep, [(58 + 1000000, .psum sNxt)]⟩
set_option maxHeartbeats 4000000 in
theorem brk_fun : FunMOK cBrk 100 Try.f47 mBrk := fun xs hx a ha b hb h => by
  replace h : 0 ≤ a.int ∧ 0 ≤ b.int ∧ (a.int.toNat ≤ b.int.toNat ∧ b.int.toNat ≤ xs.length) ∧ xs.length ≤ 1000000 := h
  obtain ⟨h1, h2, h3, h4⟩ := h
  obtain ⟨A, hA, hA'⟩ := natOf h1
  obtain ⟨B, hB, hB'⟩ := natOf h2
  rw [hA', hB'] at h3
  have hfin : ∀ l : List D, arr l = brk (arr xs) A B → BearsL u64 l (mBrk.out xs [a, b]) := fun l e => by
    show BearsL u64 l (unarr (brk (arr xs) a.int.toNat b.int.toNat))
    rw [hA', hB']; exact bearsA e
  obtain ⟨L, hL⟩ : ∃ L, L = B - A := ⟨_, rfl⟩
  have wL : IntKind.i64.wrap (b.int - a.int) = (L : Int) := w64 (by omega) (by omega)
  refine ⟨fun h5 => ?_, fun h5 => ?_⟩
  · replace h5 : leB 8 (IntKind.i64.wrap (b.int - a.int)) = true := h5
    rw [wL, leB_true] at h5
    obtain ⟨I, hI⟩ : ∃ I, I = A + L / 4 * 2 - 1 := ⟨_, rfl⟩
    have hL4 : L / 4 * 2 ≤ L := by omega
    have wq : IntKind.i64.wrap (IntKind.i64.wrap ((L : Int).tdiv 4) * 2) = ((L / 4 * 2 : Nat) : Int) := by
      rw [Int.tdiv_eq_ediv_of_nonneg (by omega), w64 (a := (L : Int) / 4) (n := L / 4) (by omega) (by omega)]
      exact w64 (by omega) (by omega)
    have wI : IntKind.i64.wrap (IntKind.i64.wrap (a.int + IntKind.i64.wrap (IntKind.i64.wrap ((IntKind.i64.wrap (b.int - a.int)).tdiv 4) * 2)) - 1) = (I : Int) := by
      rw [wL, wq, hA, w64 (a := (A : Int) + ((L / 4 * 2 : Nat) : Int)) (n := A + L / 4 * 2) (by omega) (by omega)]
      exact w64 (by omega) (by omega)
    have wI2 : IntKind.i64.wrap (IntKind.i64.wrap ((A : Int) + IntKind.i64.wrap (IntKind.i64.wrap ((L : Int).tdiv 4) * 2)) + 1) = ((I + 2 : Nat) : Int) := by
      rw [wq, w64 (a := (A : Int) + ((L / 4 * 2 : Nat) : Int)) (n := A + L / 4 * 2) (by omega) (by omega)]
      exact w64 (by omega) (by omega)
    have hn : natD (D.I (IntKind.i64.wrap (b.int - a.int))) = L := by show (IntKind.i64.wrap (b.int - a.int)).toNat = L; rw [wL]; rfl
    have hp2 : (2 : Int) ^ Go.Sort.bitsLen (natD (D.I (IntKind.i64.wrap (b.int - a.int)))) = 2 ^ Go.Sort.bitsLen L := by rw [hn]
    have hu : IntKind.u64.wrap (IntKind.i64.wrap (b.int - a.int)) = (L : Int) := by rw [wL]; exact wrap_u64 (by omega) (by omega)
    have hbr : brk (arr xs) A B = (brkN A L 3 I ((L : Nat), arr xs)).2 := by
      rw [brk, ← hL, if_pos (by omega), ← hI]
    refine ⟨(by show 1 ≤ IntKind.i64.wrap (b.int - a.int) ∧ IntKind.i64.wrap (b.int - a.int) ≤ 1000000; rw [wL]; omega), ne0 rfl, ?_⟩
    refine ⟨{ x : Nat × Int × List D // x.1 ≤ 3 ∧ x.2.2.length = xs.length ∧ (brkN A L x.1 (I + (3 - x.1)) (x.2.1, arr x.2.2)).2 = brk (arr xs) A B }, 2,
      fun x => ([(9, .dat i64 (.I ((I + (3 - x.1.1) : Nat) : Int))), (8, .dat u64 (.I (2 ^ Go.Sort.bitsLen L))), (7, .ptr 1 u64 [] u64), (6, .dat i64 (.I L)), (0, .own 0 u64), (1, .dat i64 (.I A))], [(1, .box u64 (.dat u64 (.I x.1.2.1))), (0, .grow u64 x.1.2.2)]), fun x => x.1.1,
      ⟨(3, (L : Int), xs), Nat.le_refl _, rfl, hbr.symm⟩, ⟨[], rfl, ⟨slot wI, slot hp2, rfl, slot wL, rfl, slot hA, trivial⟩, ⟨bx (congrArg D.I hu), rfl, trivial⟩⟩, ?_⟩
    intro x
    obtain ⟨⟨k, r, l⟩, g1, g2, g3⟩ := x
    simp only at g1 g2 g3
    refine ⟨ne0 rfl, fun h6 => ?_, fun h6 => ?_⟩
    · replace h6 : leB ((I + (3 - k) : Nat) : Int) (IntKind.i64.wrap (IntKind.i64.wrap ((A : Int) + IntKind.i64.wrap (IntKind.i64.wrap ((L : Int).tdiv 4) * 2)) + 1)) = true := h6
      rw [wI2, leB_true] at h6
      obtain ⟨k, rfl⟩ : ∃ q, k = q + 1 := ⟨k - 1, by omega⟩
      obtain ⟨o, e1, e2⟩ := mask_in (L := L) (r := nxt r) (by omega) (by omega)
      obtain ⟨p, p1, p2⟩ := oth_in (L := L) (r := nxt r) (by omega) (by omega)
      obtain ⟨t, ht⟩ : ∃ t, t = I + (3 - (k + 1)) := ⟨_, rfl⟩
      have ht' : I + (3 - k) = t + 1 := by omega
      have wt : IntKind.i64.wrap (((I + (3 - (k + 1)) : Nat) : Int) + 1) = ((I + (3 - k) : Nat) : Int) := w64 (by omega) (by omega)
      have bt : t < l.length := by omega
      have et : ((I + (3 - (k + 1)) : Nat) : Int) = (t : Int) := by rw [ht]
      have bp : A + p < l.length := by omega
      have hg : (brkN A L k (I + (3 - k)) (nxt r, arr (swpL l t (A + p)))).2 = brk (arr xs) A B := by
        rw [← g3, ht', swpL_arr]
        show _ = (brkN A L k (I + (3 - (k + 1)) + 1) (brkSt A L (r, arr l) (I + (3 - (k + 1))))).2
        rw [← ht, brkSt, p1]; rfl
      refine ⟨fun h7 => ?_, fun h7 => ?_⟩
      · replace h7 : leB (L : Int) (IntKind.i64.wrap (bitsOp .and .u64 (nxt r) (IntKind.u64.wrap ((2 : Int) ^ Go.Sort.bitsLen L - 1)))) = true := h7
        have hv : IntKind.i64.wrap (IntKind.i64.wrap (bitsOp .and .u64 (nxt r) (IntKind.u64.wrap ((2 : Int) ^ Go.Sort.bitsLen L - 1))) - (L : Int)) = (p : Int) := by
          rw [← p1, othI, if_pos h7]
        have wp : IntKind.i64.wrap ((A : Int) + IntKind.i64.wrap (IntKind.i64.wrap (bitsOp .and .u64 (nxt r) (IntKind.u64.wrap ((2 : Int) ^ Go.Sort.bitsLen L - 1))) - (L : Int))) = ((A + p : Nat) : Int) := by rw [hv]; exact w64 (by omega) (by omega)
        exact ⟨ixW wp bp, ixW et bt, ixW et bt, ixS wp bp, by kernel_rfl, ⟨(k, nxt r, swpL l t (A + p)), by show k ≤ 3; omega, by rw [swpL_len]; exact g2, hg⟩,
          ⟨[], rfl, ⟨slot wt, rfl, rfl, rfl, rfl, rfl, trivial⟩, ⟨rfl, gro (swpG et wp), trivial⟩⟩, by show k < k + 1; omega⟩
      · replace h7 : leB (L : Int) (IntKind.i64.wrap (bitsOp .and .u64 (nxt r) (IntKind.u64.wrap ((2 : Int) ^ Go.Sort.bitsLen L - 1)))) = false := h7
        have hv : IntKind.i64.wrap (bitsOp .and .u64 (nxt r) (IntKind.u64.wrap ((2 : Int) ^ Go.Sort.bitsLen L - 1))) = (p : Int) := by
          rw [← p1, othI, if_neg (by rw [h7]; decide)]
        have wp : IntKind.i64.wrap ((A : Int) + IntKind.i64.wrap (bitsOp .and .u64 (nxt r) (IntKind.u64.wrap ((2 : Int) ^ Go.Sort.bitsLen L - 1)))) = ((A + p : Nat) : Int) := by rw [hv]; exact w64 (by omega) (by omega)
        exact ⟨ixW wp bp, ixW et bt, ixW et bt, ixS wp bp, by kernel_rfl, ⟨(k, nxt r, swpL l t (A + p)), by show k ≤ 3; omega, by rw [swpL_len]; exact g2, hg⟩,
          ⟨[], rfl, ⟨slot wt, rfl, rfl, rfl, rfl, rfl, trivial⟩, ⟨rfl, gro (swpG et wp), trivial⟩⟩, by show k < k + 1; omega⟩
    · replace h6 : leB ((I + (3 - k) : Nat) : Int) (IntKind.i64.wrap (IntKind.i64.wrap ((A : Int) + IntKind.i64.wrap (IntKind.i64.wrap ((L : Int).tdiv 4) * 2)) + 1)) = false := h6
      rw [wI2, leB_false] at h6
      have hk : k = 0 := by omega
      subst hk
      exact ⟨⟨rfl, hfin l g3⟩, trivial⟩
  · replace h5 : leB 8 (IntKind.i64.wrap (b.int - a.int)) = false := h5
    rw [wL, leB_false] at h5
    refine ⟨⟨rfl, hfin xs ?_⟩, trivial⟩
    rw [brk, if_neg (by omega)]
end Go.Proofs.Ytmcgebhffdedpaa
