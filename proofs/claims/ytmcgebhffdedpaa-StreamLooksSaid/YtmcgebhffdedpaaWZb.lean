/- Accounts of the library's sort of labels: turning round, heaps. -/
import Derived.Test.YtmcgebhffdedpaaWZa
import Derived.Test.YtmcgebhffdedpaaWLs
namespace Go.Proofs.Ytmcgebhffdedpaa
open Go Go.Vm
set_option linter.unusedSimpArgs false
set_option linter.unusedVariables false
set_option maxRecDepth 10000
def swpL (l : List D) (i j : Nat) : List D := (l.set i (.I (l.getD j .Z).int)).set j (.I (l.getD i .Z).int)
theorem swpL_len (l : List D) (i j : Nat) : (swpL l i j).length = l.length := by simp [swpL]
theorem swpL_arr (l : List D) (i j : Nat) : arr (swpL l i j) = Go.Sort.swp (arr l) i j := arr_swp l i j
theorem swpG {l : List D} {a b : Int} {i j : Nat} {x y : D} (ha : a = i) (hb : b = j) : (l.set a.toNat (D.puts u64 x [] (.I (l.getD b.toNat .Z).int))).set b.toNat (D.puts u64 y [] (.I (l.getD a.toNat .Z).int)) = swpL l i j := by
  subst ha; subst hb; simp only [D.puts_nil, Int.toNat_natCast]; rfl
theorem ixW {a : Int} {i n : Nat} (e : a = i) (h : i < n) : 0 ≤ a ∧ a < (n : Int) := by omega
theorem ixS {a : Int} {i k : Nat} {l : List D} {x : D} (e : a = i) (h : i < l.length) : 0 ≤ a ∧ a < ((l.set k x).length : Int) := by rw [List.length_set]; omega
theorem ltE {l : List D} {a b : Int} {i j : Nat} (ha : a = i) (hb : b = j) : ltB (l.getD a.toNat .Z).int (l.getD b.toNat .Z).int = Go.Sort.ltInt (arr l)[i]! (arr l)[j]! := by
  subst ha; subst hb; simp only [Int.toNat_natCast]; exact lt_arr l i j
theorem w64 {a : Int} {n : Nat} (e : a = n) (h : n ≤ 9000000000000000000) : IntKind.i64.wrap a = (n : Int) := by
  rw [wrap_i64 (by omega) (by omega), e]
def cZ : Ctx := ⟨tabS, [], [(51, sLess)], [], keep, []⟩
def mSeg (pre : Nat → Nat → Nat → Prop) (f : Array Int → Nat → Nat → Array Int) : MSum := ⟨u64, [.dat i64, .dat i64], fun xs ds => match ds with
  | [a, b] => some (0 ≤ a.int ∧ 0 ≤ b.int ∧ pre a.int.toNat b.int.toNat xs.length ∧ xs.length ≤ 1000000)
  | _ => some False, fun _ _ => .tup [], fun xs ds => match ds with
  | [a, b] => unarr (f (arr xs) a.int.toNat b.int.toNat)
  | _ => xs⟩
def mRev : MSum := mSeg (fun a b n => a < b ∧ b ≤ n) Go.Sort.reverseRange
theorem natOf {a : Int} (h : 0 ≤ a) : ∃ A : Nat, a = A ∧ a.toNat = A := ⟨a.toNat, by omega, rfl⟩
theorem rev_fun : FunMOK cZ 100 Try.f49 mRev := fun xs hx a ha b hb h => by
  replace h : 0 ≤ a.int ∧ 0 ≤ b.int ∧ (a.int.toNat < b.int.toNat ∧ b.int.toNat ≤ xs.length) ∧ xs.length ≤ 1000000 := h
  obtain ⟨h1, h2, h3, h4⟩ := h
  obtain ⟨A, hA, hA'⟩ := natOf h1
  obtain ⟨B, hB, hB'⟩ := natOf h2
  rw [hA', hB'] at h3
  have hfin : ∀ l : List D, arr l = Go.Sort.reverseRange (arr xs) A B → BearsL u64 l (mRev.out xs [a, b]) := fun l e => by
    show BearsL u64 l (unarr (Go.Sort.reverseRange (arr xs) a.int.toNat b.int.toNat))
    rw [hA', hB']; exact bearsA e
  have wB : IntKind.i64.wrap (b.int - 1) = ((B - 1 : Nat) : Int) := w64 (by omega) (by omega)
  refine ⟨{ x : (Nat × Nat) × List D // x.1.2 < B ∧ x.2.length = xs.length ∧ Go.Sort.reverseLoop x.1.1 x.1.2 (arr x.2) = Go.Sort.reverseRange (arr xs) A B }, 1,
    fun x => ([(6, .dat i64 (.I x.1.1.1)), (7, .dat i64 (.I x.1.1.2)), (0, .own 0 u64)], [(0, .grow u64 x.1.2)]), fun x => x.1.1.2 - x.1.1.1,
    ⟨((A, B - 1), xs), by show B - 1 < B; omega, rfl, rfl⟩, ⟨[], rfl, ⟨slot hA, slot wB, rfl, trivial⟩, ⟨rfl, trivial⟩⟩, ?_⟩
  intro x
  obtain ⟨⟨⟨i, j⟩, l⟩, g1, g2, g3⟩ := x
  simp only at g1 g2 g3
  refine ⟨fun h5 => ?_, fun h5 => ?_⟩
  · have hij : i < j := ltN h5
    have bi : i < l.length := by omega
    have bj : j < l.length := by omega
    have wi : IntKind.i64.wrap ((i : Int) + 1) = ((i + 1 : Nat) : Int) := w64 (by omega) (by omega)
    have wj : IntKind.i64.wrap ((j : Int) - 1) = ((j - 1 : Nat) : Int) := w64 (by omega) (by omega)
    refine ⟨ix bj, ix bi, ix bi, ixS rfl bj, by kernel_rfl, ⟨((i + 1, j - 1), swpL l i j), by show j - 1 < B; omega, by rw [swpL_len]; exact g2, ?_⟩,
      ⟨[], rfl, ⟨slot wi, slot wj, rfl, trivial⟩, ⟨gro (swpG rfl rfl), trivial⟩⟩, ?_⟩
    · rw [← g3]
      show Go.Sort.reverseLoop (i + 1) (j - 1) (arr (swpL l i j)) = Go.Sort.reverseLoop i j (arr l)
      conv => rhs; rw [Go.Sort.reverseLoop, if_pos hij]
      rw [swpL_arr]
    · show j - 1 - (i + 1) < j - i
      omega
  · replace h5 : ltB (i : Int) (j : Int) = false := h5
    simp only [ltB_false] at h5
    refine ⟨⟨rfl, hfin l ?_⟩, trivial⟩
    rw [← g3, Go.Sort.reverseLoop, if_neg (by omega)]
def mSift : MSum := ⟨u64, [.dat i64, .dat i64, .dat i64], fun xs ds => match ds with
  | [lo, hi, first] => some (0 ≤ lo.int ∧ 0 ≤ hi.int ∧ 0 ≤ first.int ∧ first.int + hi.int ≤ xs.length ∧ lo.int ≤ 1000000 ∧ xs.length ≤ 1000000)
  | _ => some False, fun _ _ => .tup [], fun xs ds => match ds with
  | [lo, hi, first] => unarr (Go.Sort.siftDown Go.Sort.ltInt hi.int.toNat first.int.toNat lo.int.toNat (arr xs))
  | _ => xs⟩
theorem sift_stop {hi F r : Nat} {d : Array Int} (h : ¬ 2 * r + 1 < hi) : Go.Sort.siftDown Go.Sort.ltInt hi F r d = d := by
  rw [Go.Sort.siftDown, dif_pos (by omega)]
theorem sift_go {hi F r c : Nat} {d : Array Int} (h : 2 * r + 1 < hi) (hc : c = if (2 * r + 1 + 1 < hi && Go.Sort.ltInt d[F + (2 * r + 1)]! d[F + (2 * r + 1) + 1]!) = true then 2 * r + 2 else 2 * r + 1) :
    Go.Sort.siftDown Go.Sort.ltInt hi F r d = if Go.Sort.ltInt d[F + r]! d[F + c]! = true then Go.Sort.siftDown Go.Sort.ltInt hi F c (Go.Sort.swp d (F + r) (F + c)) else d := by
  subst hc
  rw [Go.Sort.siftDown, dif_neg (by omega)]
  by_cases h1 : (2 * r + 1 + 1 < hi && Go.Sort.ltInt d[F + (2 * r + 1)]! d[F + (2 * r + 1) + 1]!) = true
  · rw [if_pos h1, if_pos h1]
    simp only [Bool.and_eq_true, decide_eq_true_eq] at h1
    by_cases h2 : Go.Sort.ltInt d[F + r]! d[F + (2 * r + 2)]! = true
    · rw [if_neg (by rw [h2]; decide), dif_pos (by omega), if_pos h2]
    · rw [if_pos (by simpa using h2), if_neg h2]
  · rw [if_neg h1, if_neg h1]
    by_cases h2 : Go.Sort.ltInt d[F + r]! d[F + (2 * r + 1)]! = true
    · rw [if_neg (by rw [h2]; decide), if_pos h2]
    · rw [if_pos (by simpa using h2), if_neg h2]
theorem sift_fun : FunMOK cZ 100 Try.f56 mSift := fun xs hx lo hlo hi hhi first hfirst h => by
  replace h : 0 ≤ lo.int ∧ 0 ≤ hi.int ∧ 0 ≤ first.int ∧ first.int + hi.int ≤ xs.length ∧ lo.int ≤ 1000000 ∧ xs.length ≤ 1000000 := h
  obtain ⟨h1, h2, h3, h4, h4', h5⟩ := h
  obtain ⟨L, hL, hL'⟩ := natOf h1
  obtain ⟨H, hH, hH'⟩ := natOf h2
  obtain ⟨F, hF, hF'⟩ := natOf h3
  have hfin : ∀ l : List D, arr l = Go.Sort.siftDown Go.Sort.ltInt H F L (arr xs) → BearsL u64 l (mSift.out xs [lo, hi, first]) := fun l e => by
    show BearsL u64 l (unarr (Go.Sort.siftDown Go.Sort.ltInt hi.int.toNat first.int.toNat lo.int.toNat (arr xs)))
    rw [hL', hH', hF']; exact bearsA e
  refine ⟨{ x : Nat × List D // x.1 ≤ 1000000 ∧ x.2.length = xs.length ∧ Go.Sort.siftDown Go.Sort.ltInt H F x.1 (arr x.2) = Go.Sort.siftDown Go.Sort.ltInt H F L (arr xs) }, 1,
    fun x => ([(8, .dat i64 (.I x.1.1)), (0, .own 0 u64), (2, .dat i64 (.I H)), (3, .dat i64 (.I F))], [(0, .grow u64 x.1.2)]), fun x => H - x.1.1,
    ⟨(L, xs), by show L ≤ 1000000; omega, rfl, rfl⟩, ⟨[], rfl, ⟨slot hL, rfl, slot hH, slot hF, trivial⟩, ⟨rfl, trivial⟩⟩, ?_⟩
  intro x
  obtain ⟨⟨r, l⟩, g1, g2, g3⟩ := x
  simp only at g1 g2 g3
  have w1 : IntKind.i64.wrap (IntKind.i64.wrap (2 * (r : Int)) + 1) = ((2 * r + 1 : Nat) : Int) := by
    rw [w64 (a := 2 * (r : Int)) (n := 2 * r) (by omega) (by omega)]; exact w64 (by omega) (by omega)
  have w2 : IntKind.i64.wrap (IntKind.i64.wrap (IntKind.i64.wrap (2 * (r : Int)) + 1) + 1) = ((2 * r + 2 : Nat) : Int) := by
    rw [w1]; exact w64 (by omega) (by omega)
  have wr : r < H → IntKind.i64.wrap ((F : Int) + (r : Int)) = ((F + r : Nat) : Int) := fun _ => w64 (by omega) (by omega)
  have wc1 : 2 * r + 1 < H → IntKind.i64.wrap ((F : Int) + IntKind.i64.wrap (IntKind.i64.wrap (2 * (r : Int)) + 1)) = ((F + (2 * r + 1) : Nat) : Int) := fun _ => by
    rw [w1]; exact w64 (by omega) (by omega)
  have wc2 : 2 * r + 2 < H → IntKind.i64.wrap ((F : Int) + IntKind.i64.wrap (IntKind.i64.wrap (IntKind.i64.wrap (2 * (r : Int)) + 1) + 1)) = ((F + (2 * r + 2) : Nat) : Int) := fun _ => by
    rw [w2]; exact w64 (by omega) (by omega)
  have wc3 : 2 * r + 2 < H → IntKind.i64.wrap (IntKind.i64.wrap ((F : Int) + IntKind.i64.wrap (IntKind.i64.wrap (2 * (r : Int)) + 1)) + 1) = ((F + (2 * r + 1) + 1 : Nat) : Int) := fun _ => by
    rw [wc1 (by omega)]; exact w64 (by omega) (by omega)
  refine ⟨fun h6 => ⟨⟨rfl, hfin l ?_⟩, trivial⟩, fun h6 => ?_⟩
  · replace h6 : leB (H : Int) (IntKind.i64.wrap (IntKind.i64.wrap (2 * (r : Int)) + 1)) = true := h6
    rw [w1] at h6
    simp only [leB_true] at h6
    rw [← g3, sift_stop (by omega)]
  replace h6 : leB (H : Int) (IntKind.i64.wrap (IntKind.i64.wrap (2 * (r : Int)) + 1)) = false := h6
  rw [w1] at h6
  simp only [leB_false] at h6
  have hlt : 2 * r + 1 < H := by omega
  have hk2 : ∀ {s : Nat}, KeyCond [(s, true, ltB (IntKind.i64.wrap (IntKind.i64.wrap (IntKind.i64.wrap (2 * (r : Int)) + 1) + 1)) (H : Int))] → 2 * r + 2 < H := fun hk => by
    have h := keyOne hk
    rw [w2] at h; exact ltN h
  have br : F + r < l.length := by omega
  have b1 : F + (2 * r + 1) < l.length := by omega
  refine ⟨fun hk => ixW (wc1 hlt) b1, fun hk => ixW (wc3 (hk2 hk)) (show F + (2 * r + 1) + 1 < l.length by have := hk2 hk; omega), by kernel_rfl, fun h7 => ?_, fun h7 => ?_⟩
  · have h7 : (ltB (IntKind.i64.wrap (IntKind.i64.wrap (IntKind.i64.wrap (2 * (r : Int)) + 1) + 1)) (H : Int) && ltB (l.getD (IntKind.i64.wrap ((F : Int) + IntKind.i64.wrap (IntKind.i64.wrap (2 * (r : Int)) + 1))).toNat .Z).int (l.getD (IntKind.i64.wrap (IntKind.i64.wrap ((F : Int) + IntKind.i64.wrap (IntKind.i64.wrap (2 * (r : Int)) + 1)) + 1)).toNat .Z).int) = true := h7
    simp only [Bool.and_eq_true] at h7
    have hc : 2 * r + 2 < H := by have h := h7.1; rw [w2] at h; exact ltN h
    have h9 := (ltE (wc1 hlt) (wc3 hc)).symm.trans h7.2
    have hsel : 2 * r + 2 = if (2 * r + 1 + 1 < H && Go.Sort.ltInt (arr l)[F + (2 * r + 1)]! (arr l)[F + (2 * r + 1) + 1]!) = true then 2 * r + 2 else 2 * r + 1 := by
      rw [if_pos (by rw [h9, Bool.and_true, decide_eq_true_eq]; omega)]
    have hc : 2 * r + 2 < H := hc
    have bc : F + (2 * r + 2) < l.length := by omega
    have hgo := sift_go (c := 2 * r + 2) hlt (d := arr l) (F := F) hsel
    refine ⟨ixW (wr (by omega)) br, ixW (wc2 hc) bc, by kernel_rfl, fun h8 => ?_, fun h8 => ?_⟩
    · have h8 : (!Go.Sort.ltInt (arr l)[F + r]! (arr l)[F + (2 * r + 2)]!) = true := (congrArg not (ltE (wr (by omega)) (wc2 hc))).symm.trans h8
      refine ⟨⟨rfl, hfin l ?_⟩, trivial⟩
      rw [← g3, hgo, if_neg (by simpa using h8)]
    · have h8 : (!Go.Sort.ltInt (arr l)[F + r]! (arr l)[F + (2 * r + 2)]!) = false := (congrArg not (ltE (wr (by omega)) (wc2 hc))).symm.trans h8
      refine ⟨ixW (wc2 hc) bc, ixW (wr (by omega)) br, ixW (wr (by omega)) br, ixS (wc2 hc) bc, by kernel_rfl,
        ⟨(2 * r + 2, swpL l (F + r) (F + (2 * r + 2))), by show 2 * r + 2 ≤ 1000000; omega, by rw [swpL_len]; exact g2, ?_⟩, ⟨[], rfl, ⟨slot w2, rfl, rfl, rfl, trivial⟩, ⟨gro (swpG (wr (by omega)) (wc2 hc)), trivial⟩⟩, ?_⟩
      · rw [← g3, hgo, if_pos (by simpa using h8), swpL_arr]
      · show H - (2 * r + 2) < H - r
        omega
  · have h7 : (ltB (IntKind.i64.wrap (IntKind.i64.wrap (IntKind.i64.wrap (2 * (r : Int)) + 1) + 1)) (H : Int) && ltB (l.getD (IntKind.i64.wrap ((F : Int) + IntKind.i64.wrap (IntKind.i64.wrap (2 * (r : Int)) + 1))).toNat .Z).int (l.getD (IntKind.i64.wrap (IntKind.i64.wrap ((F : Int) + IntKind.i64.wrap (IntKind.i64.wrap (2 * (r : Int)) + 1)) + 1)).toNat .Z).int) = false := h7
    have hsel : 2 * r + 1 = if (2 * r + 1 + 1 < H && Go.Sort.ltInt (arr l)[F + (2 * r + 1)]! (arr l)[F + (2 * r + 1) + 1]!) = true then 2 * r + 2 else 2 * r + 1 := by
      rw [if_neg ?_]
      intro h9
      simp only [Bool.and_eq_true, decide_eq_true_eq] at h9
      have h10 := (ltE (wc1 hlt) (wc3 (by omega))).trans h9.2
      rw [h10, Bool.and_true, w2, ltB_false] at h7
      omega
    have hc : 2 * r + 1 < H := hlt
    have bc : F + (2 * r + 1) < l.length := by omega
    have hgo := sift_go (c := 2 * r + 1) hlt (d := arr l) (F := F) hsel
    refine ⟨ixW (wr (by omega)) br, ixW (wc1 hc) bc, by kernel_rfl, fun h8 => ?_, fun h8 => ?_⟩
    · have h8 : (!Go.Sort.ltInt (arr l)[F + r]! (arr l)[F + (2 * r + 1)]!) = true := (congrArg not (ltE (wr (by omega)) (wc1 hc))).symm.trans h8
      refine ⟨⟨rfl, hfin l ?_⟩, trivial⟩
      rw [← g3, hgo, if_neg (by simpa using h8)]
    · have h8 : (!Go.Sort.ltInt (arr l)[F + r]! (arr l)[F + (2 * r + 1)]!) = false := (congrArg not (ltE (wr (by omega)) (wc1 hc))).symm.trans h8
      refine ⟨ixW (wc1 hc) bc, ixW (wr (by omega)) br, ixW (wr (by omega)) br, ixS (wc1 hc) bc, by kernel_rfl,
        ⟨(2 * r + 1, swpL l (F + r) (F + (2 * r + 1))), by show 2 * r + 1 ≤ 1000000; omega, by rw [swpL_len]; exact g2, ?_⟩, ⟨[], rfl, ⟨slot w1, rfl, rfl, rfl, trivial⟩, ⟨gro (swpG (wr (by omega)) (wc1 hc)), trivial⟩⟩, ?_⟩
      · rw [← g3, hgo, if_pos (by simpa using h8), swpL_arr]
      · show H - (2 * r + 1) < H - r
        omega
def mHeap : MSum := mSeg (fun a b n => a ≤ b ∧ b ≤ n) (Go.Sort.heapSort Go.Sort.ltInt)
end Go.Proofs.Ytmcgebhffdedpaa
