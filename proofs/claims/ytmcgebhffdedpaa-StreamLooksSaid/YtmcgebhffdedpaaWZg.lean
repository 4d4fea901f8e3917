/- Accounts of the library's sort of labels: pdqsort. -/
import Derived.Test.YtmcgebhffdedpaaWZf
namespace Go.Proofs.Ytmcgebhffdedpaa
open Go Go.Vm
set_option linter.unusedSimpArgs false
set_option linter.unusedVariables false
set_option maxRecDepth 10000
def mPdqN (n : Nat) : MSum := ⟨u64, [.dat i64, .dat i64, .dat i64], fun xs ds => match ds with
  | [a, b, c] => some (0 ≤ a.int ∧ a.int ≤ b.int ∧ b.int ≤ xs.length ∧ xs.length ≤ 1000000 ∧ 0 ≤ c.int ∧ c.int ≤ 1000 ∧ natD b - natD a < n ∧ Go.Sort.Below Go.Sort.ltInt (natD a) (natD b) (arr xs))
  | _ => some False, fun _ _ => .tup [], fun xs ds => match ds with
  | [a, b, _] => segS (natD a) (natD b) xs
  | _ => xs⟩
noncomputable def cPdq (n : Nat) : Ctx := ⟨tabH, [], [(51, sLess), (48, sCho)], [], keep,
  [(45 + 1000000, .msum mIns), (46 + 1000000, .msum mHeap), (47 + 1000000, .msum mBrk), (49 + 1000000, .msum mRev),
   (50 + 1000000, .msum mPar), (52 + 1000000, .msum mPeq), (53 + 1000000, .msum mPart), (42 + 1000000, .msum (mPdqN n)),
   (3134035, .flag true), (3134050, .flag true), (3134068, .flag true)]⟩
/-- How far the sort has come. -/
structure PdqI (xs : List D) (A B a b : Nat) (l : List D) : Prop where
  hab : a ≤ b
  hb : b ≤ xs.length
  hd : b - a ≤ B - A
  len : l.length = xs.length
  bel : Go.Sort.Below Go.Sort.ltInt a b (arr l)
  comp : ∀ R, Go.Sort.PermIn a b (arr l) R → Go.Sort.SortedIn Go.Sort.ltInt a b R → Go.Sort.PermIn A B (arr xs) R ∧ Go.Sort.SortedIn Go.Sort.ltInt A B R
theorem PdqI.done {xs : List D} {A B a b : Nat} {l l' : List D} (I : PdqI xs A B a b l) (h1 : A ≤ B) (h2 : B ≤ xs.length) (hp : Go.Sort.PermIn a b (arr l) (arr l')) (hs : Go.Sort.SortedIn Go.Sort.ltInt a b (arr l')) : BearsL u64 l' (segS A B xs) := by
  obtain ⟨k1, k2⟩ := I.comp _ hp hs
  have e := segS_arr h1 h2 k1 k2
  exact bearsL_int (congrArg Array.toList e)
theorem PdqI.step {xs : List D} {A B a b a' b' : Nat} {l l3 l' : List D} (I : PdqI xs A B a b l) (hp : Go.Sort.PermIn a b (arr l) (arr l3)) (h1 : a' ≤ b') (h2 : a ≤ a') (h3 : b' ≤ b) (hl : l'.length = xs.length) (hB : Go.Sort.Below Go.Sort.ltInt a' b' (arr l'))
    (hc : ∀ R, Go.Sort.PermIn a' b' (arr l') R → Go.Sort.SortedIn Go.Sort.ltInt a' b' R → Go.Sort.PermIn a b (arr l3) R ∧ Go.Sort.SortedIn Go.Sort.ltInt a b R) : PdqI xs A B a' b' l' where
  hab := h1
  hb := Nat.le_trans h3 I.hb
  hd := by have := I.hd; omega
  len := hl
  bel := hB
  comp := fun R h4 h5 => by
    obtain ⟨k1, k2⟩ := hc R h4 h5
    exact I.comp R (Go.Sort.permIn_trans _ _ _ _ _ hp k1) k2
set_option maxHeartbeats 8000000 in
theorem pdqN_fun (n : Nat) : FunMOK (cPdq n) 100 Try.f42 (mPdqN (n + 1)) := fun xs hx a0 ha b0 hb c hc h => by
  replace h : 0 ≤ a0.int ∧ a0.int ≤ b0.int ∧ b0.int ≤ xs.length ∧ xs.length ≤ 1000000 ∧ 0 ≤ c.int ∧ c.int ≤ 1000 ∧ natD b0 - natD a0 < n + 1 ∧ Go.Sort.Below Go.Sort.ltInt (natD a0) (natD b0) (arr xs) := h
  obtain ⟨k1, k2, k3, k4, k5, k6, k7, k8⟩ := h
  obtain ⟨A, hA, hA'⟩ := natD_of (a := a0) (by omega)
  obtain ⟨B, hB, hB'⟩ := natD_of (a := b0) (by omega)
  obtain ⟨M, hM, hM'⟩ := natD_of (a := c) (by omega)
  rw [hA', hB'] at k7 k8
  have hAB : A ≤ B := by omega
  have hBl : B ≤ xs.length := by omega
  have hfin : ∀ l : List D, BearsL u64 l (segS A B xs) → BearsL u64 l ((mPdqN (n + 1)).out xs [a0, b0, c]) := fun l e => by
    show BearsL u64 l (segS (natD a0) (natD b0) xs)
    rw [hA', hB']; exact e
  refine ⟨{ x : (Nat × Nat × Nat) × (Bool × Bool) × List D // x.1.2.2 ≤ 1000 ∧ PdqI xs A B x.1.1 x.1.2.1 x.2.2 }, 1,
    fun x => ([(1, .dat i64 (.I x.1.1.1)), (2, .dat i64 (.I x.1.1.2.1)), (3, .dat i64 (.I x.1.1.2.2)), (8, .dat .bool (.B x.1.2.1.1)), (9, .dat .bool (.B x.1.2.1.2)), (0, .own 0 u64)], [(0, .grow u64 x.1.2.2)]), fun x => x.1.1.2.1 - x.1.1.1,
    ⟨((A, B, M), (true, true), xs), by show M ≤ 1000; omega, ⟨hAB, hBl, Nat.le_refl _, rfl, k8, fun R h1 h2 => ⟨h1, h2⟩⟩⟩, ⟨[], rfl, ⟨slot hA, slot hB, slot hM, rfl, rfl, rfl, trivial⟩, ⟨rfl, trivial⟩⟩, ?_⟩
  intro x
  obtain ⟨⟨⟨a, b, lim⟩, ⟨wb, wp⟩, l⟩, hlim, I⟩ := x
  simp only at hlim I
  have hab := I.hab
  have hbx := I.hb
  have hll := I.len
  have hbd : b ≤ (arr l).size := by rw [arr_size]; omega
  have wba : IntKind.i64.wrap ((b : Int) - (a : Int)) = ((b - a : Nat) : Int) := w64 (by omega) (by omega)
  refine ⟨fun h1 => ?_, fun h1 => ⟨fun h2 => ?_, fun h2 => ?_⟩⟩
  · obtain ⟨p1, p2⟩ := segS_perm (a := a) (b := b) (x := l) hab (by omega)
    refine ⟨?_, ⟨rfl, hfin _ (I.done hAB hBl p1 p2)⟩, trivial⟩
    show 0 ≤ (a : Int) ∧ (a : Int) ≤ (b : Int) ∧ (b : Int) ≤ (l.length : Int) ∧ l.length ≤ 1000000
    omega
  · obtain ⟨p1, p2⟩ := Go.Sort.heapSort_holds Go.Sort.swo_ltInt (arr l) a b hab hbd
    refine ⟨?_, ⟨rfl, hfin _ (I.done hAB hBl (l' := unarr (Go.Sort.heapSort Go.Sort.ltInt (arr l) a b)) (by rw [arr_unarr]; exact p1) (by rw [arr_unarr]; exact p2))⟩, trivial⟩
    show 0 ≤ (a : Int) ∧ 0 ≤ (b : Int) ∧ (a ≤ b ∧ b ≤ l.length) ∧ l.length ≤ 1000000
    omega
  replace h1 : leB (IntKind.i64.wrap ((b : Int) - (a : Int))) 12 = false := h1
  rw [wba, leB_false] at h1
  have h2 : ((lim : Int) == 0) = false := h2
  have hl0 : lim ≠ 0 := by simpa using h2
  clear h2
  refine ⟨{ y : Nat × List D // y.1 ≤ 1000 ∧ Go.Sort.PermIn a b (arr l) (arr y.2) }, 1, fun y => ([(1, .dat i64 (.I a)), (2, .dat i64 (.I b)), (3, .dat i64 (.I y.1.1)), (8, .dat .bool (.B wb)), (9, .dat .bool (.B wp)), (10, .dat i64 (.I ((b - a : Nat) : Int))), (0, .own 0 u64)], [(0, .grow u64 y.1.2)]), ⟨fun h2 => ?_, fun h2 => ?_⟩, ?_⟩
  · have wl : IntKind.i64.wrap ((lim : Int) - 1) = ((lim - 1 : Nat) : Int) := w64 (by omega) (by omega)
    refine ⟨?_, ⟨(lim - 1, unarr (brk (arr l) a b)), by show lim - 1 ≤ 1000; omega, by show Go.Sort.PermIn a b (arr l) (arr (unarr (brk (arr l) a b))); rw [arr_unarr]; exact brk_perm hab hbd (by rw [arr_size]; omega)⟩, ⟨[], rfl, ⟨rfl, rfl, slot wl, rfl, rfl, slot wba, rfl, trivial⟩, ⟨rfl, trivial⟩⟩⟩
    show 0 ≤ (a : Int) ∧ 0 ≤ (b : Int) ∧ (a ≤ b ∧ b ≤ l.length) ∧ l.length ≤ 1000000
    omega
  · exact ⟨⟨(lim, l), hlim, Go.Sort.permIn_refl _ _ _⟩, ⟨[], rfl, ⟨rfl, rfl, rfl, rfl, rfl, slot wba, rfl, trivial⟩, ⟨rfl, trivial⟩⟩⟩
  intro y
  obtain ⟨⟨lim1, l1⟩, hlim1, hp1⟩ := y
  simp only at hlim1 hp1
  have hl1 : l1.length = xs.length := by have h := hp1.1; rw [arr_size, arr_size] at h; omega
  have hb1 : b ≤ (arr l1).size := by rw [arr_size]; omega
  obtain ⟨c1, c2⟩ := Go.Sort.choosePivot_holds Go.Sort.ltInt (arr l1) a b (by omega)
  refine ⟨?_, ?_⟩
  · show 0 ≤ (a : Int) ∧ (a : Int) < (b : Int) ∧ (b : Int) ≤ (l1.length : Int) ∧ l1.length ≤ 1000000
    omega
  refine ⟨{ y : Nat × Int × List D // a ≤ y.1 ∧ y.1 < b ∧ Go.Sort.PermIn a b (arr l) (arr y.2.2) }, 1, fun y => ([(11, .dat i64 (.I y.1.1)), (12, .dat i64 (.I y.1.2.1)), (1, .dat i64 (.I a)), (2, .dat i64 (.I b)), (3, .dat i64 (.I lim1)), (8, .dat .bool (.B wb)), (9, .dat .bool (.B wp)), (10, .dat i64 (.I ((b - a : Nat) : Int))), (0, .own 0 u64)], [(0, .grow u64 y.1.2.2)]), ⟨fun h3 => ?_, fun h3 => ?_⟩, ?_⟩
  · have wc : IntKind.i64.wrap (IntKind.i64.wrap ((b : Int) - 1) - IntKind.i64.wrap (((Go.Sort.choosePivot Go.Sort.ltInt (arr l1) a b).1 : Int) - (a : Int))) = ((b - 1 - ((Go.Sort.choosePivot Go.Sort.ltInt (arr l1) a b).1 - a) : Nat) : Int) := by
      rw [w64 (a := (b : Int) - 1) (n := b - 1) (by omega) (by omega), w64 (a := ((Go.Sort.choosePivot Go.Sort.ltInt (arr l1) a b).1 : Int) - (a : Int)) (n := (Go.Sort.choosePivot Go.Sort.ltInt (arr l1) a b).1 - a) (by omega) (by omega)]
      exact w64 (by omega) (by omega)
    refine ⟨?_, ⟨(b - 1 - ((Go.Sort.choosePivot Go.Sort.ltInt (arr l1) a b).1 - a), 1, unarr (Go.Sort.reverseRange (arr l1) a b)), by show a ≤ b - 1 - ((Go.Sort.choosePivot Go.Sort.ltInt (arr l1) a b).1 - a); omega, by show b - 1 - ((Go.Sort.choosePivot Go.Sort.ltInt (arr l1) a b).1 - a) < b; omega, ?_⟩, ⟨[], rfl, ⟨slot wc, rfl, rfl, rfl, rfl, rfl, rfl, rfl, rfl, trivial⟩, ⟨rfl, trivial⟩⟩⟩
    · show 0 ≤ (a : Int) ∧ 0 ≤ (b : Int) ∧ (a < b ∧ b ≤ l1.length) ∧ l1.length ≤ 1000000
      omega
    · show Go.Sort.PermIn a b (arr l) (arr (unarr (Go.Sort.reverseRange (arr l1) a b)))
      rw [arr_unarr]
      exact Go.Sort.permIn_trans _ _ _ _ _ hp1 (Go.Sort.reverseRange_holds (arr l1) a b hab hb1)
  · exact ⟨⟨((Go.Sort.choosePivot Go.Sort.ltInt (arr l1) a b).1, hcode (Go.Sort.choosePivot Go.Sort.ltInt (arr l1) a b).2, l1), c1, c2, hp1⟩, ⟨[], rfl, ⟨rfl, rfl, rfl, rfl, rfl, rfl, rfl, rfl, rfl, trivial⟩, ⟨rfl, trivial⟩⟩⟩
  intro y
  obtain ⟨⟨p, hint, l2⟩, hpa, hpb, hp2⟩ := y
  simp only at hpa hpb hp2
  clear c1 c2 hp1 hl1 hb1
  have hl2 : l2.length = xs.length := by have h := hp2.1; rw [arr_size, arr_size] at h; omega
  have hb2 : b ≤ (arr l2).size := by rw [arr_size]; omega
  have hbel2 := I.bel.perm hbd hp2
  obtain ⟨q1, q2⟩ := Go.Sort.partialInsertionSort_holds Go.Sort.swo_ltInt (arr l2) a b (by omega) hb2 hbel2
  refine ⟨{ y : List D // Go.Sort.PermIn a b (arr l) (arr y) }, 1, fun y => ([(11, .dat i64 (.I p)), (1, .dat i64 (.I a)), (2, .dat i64 (.I b)), (3, .dat i64 (.I lim1)), (8, .dat .bool (.B wb)), (9, .dat .bool (.B wp)), (10, .dat i64 (.I ((b - a : Nat) : Int))), (0, .own 0 u64)], [(0, .grow u64 y.1)]), ⟨fun h3 => ?_, fun h3 => ?_⟩, ?_⟩
  · have hq : Go.Sort.PermIn a b (arr l) (arr (unarr (Go.Sort.partialInsertionSort Go.Sort.ltInt (arr l2) a b).1)) := by rw [arr_unarr]; exact Go.Sort.permIn_trans _ _ _ _ _ hp2 q1
    refine ⟨?_, fun h4 => ⟨⟨rfl, hfin _ (I.done hAB hBl (l' := unarr (Go.Sort.partialInsertionSort Go.Sort.ltInt (arr l2) a b).1) hq (by rw [arr_unarr]; exact q2 h4))⟩, trivial⟩, fun h4 => ⟨⟨unarr (Go.Sort.partialInsertionSort Go.Sort.ltInt (arr l2) a b).1, hq⟩, ⟨[], rfl, ⟨rfl, rfl, rfl, rfl, rfl, rfl, rfl, rfl, trivial⟩, ⟨rfl, trivial⟩⟩⟩⟩
    show 0 ≤ (a : Int) ∧ (a : Int) < (b : Int) ∧ (b : Int) ≤ (l2.length : Int) ∧ l2.length ≤ 1000000
    omega
  · exact ⟨⟨l2, hp2⟩, ⟨[], rfl, ⟨rfl, rfl, rfl, rfl, rfl, rfl, rfl, rfl, trivial⟩, ⟨rfl, trivial⟩⟩⟩
  intro y
  obtain ⟨l3, hp3⟩ := y
  clear q1 q2 hbel2 hb2 hl2 hp2
  have hl3 : l3.length = xs.length := by have h := hp3.1; rw [arr_size, arr_size] at h; omega
  have hb3 : b ≤ (arr l3).size := by rw [arr_size]; omega
  have hbel3 := I.bel.perm hbd hp3
  have bp : p < l3.length := by omega
  have wa1 : IntKind.i64.wrap ((a : Int) - 1) = ((a - 1 : Nat) : Int) ∨ a = 0 := by
    rcases Nat.eq_zero_or_pos a with h | h
    · exact .inr h
    · exact .inl (w64 (by omega) (by omega))
  have ba1 : a - 1 < l3.length := by omega
  have hpre : 0 ≤ (a : Int) ∧ (a : Int) ≤ (p : Int) ∧ (p : Int) < (b : Int) ∧ (b : Int) ≤ (l3.length : Int) ∧ l3.length ≤ 1000000 := by omega
  refine ⟨fun hk => ?_, fun hk => ix bp, by kernel_rfl, fun h3 => ?_, fun h3 => ?_⟩
  · have h0 : 0 < a := ltN (i := 0) (keyOne hk)
    rcases wa1 with h | h
    · exact ixW h ba1
    · omega
  · have h4 : ((ltB ((0 : Nat) : Int) (a : Int)) && !ltB (l3.getD (IntKind.i64.wrap ((a : Int) - 1)).toNat .Z).int (l3.getD (p : Int).toNat .Z).int) = true := h3
    simp only [Bool.and_eq_true, Bool.not_eq_true'] at h4
    have ha0 : 0 < a := ltN h4.1
    have wa : IntKind.i64.wrap ((a : Int) - 1) = ((a - 1 : Nat) : Int) := w64 (by omega) (by omega)
    have hnl : Go.Sort.ltInt (arr l3)[a - 1]! (arr l3)[p]! = false := (ltE wa rfl).symm.trans h4.2
    obtain ⟨r1, r2, r3, r4, r5⟩ := Go.Sort.round_eq (mid := (Go.Sort.partitionEqual Go.Sort.ltInt (arr l3) a b p).1) (d4 := (Go.Sort.partitionEqual Go.Sort.ltInt (arr l3) a b p).2) Go.Sort.swo_ltInt (Go.Sort.partitionEqual_holds Go.Sort.ltInt) ha0 hpa hpb hb3 hbel3 hnl (Prod.ext rfl rfl)
    refine ⟨hpre, ⟨(((Go.Sort.partitionEqual Go.Sort.ltInt (arr l3) a b p).1, b, lim1), (wb, wp), unarr (Go.Sort.partitionEqual Go.Sort.ltInt (arr l3) a b p).2), hlim1, I.step hp3 r2 (Nat.le_of_lt r1) (Nat.le_refl _) (by rw [unarr_len, r3, arr_size]; exact hl3) (by rw [arr_unarr]; exact r4) (by rw [arr_unarr]; exact r5)⟩,
      ⟨[], rfl, ⟨rfl, rfl, rfl, rfl, rfl, rfl, trivial⟩, ⟨rfl, trivial⟩⟩, ?_⟩
    show b - (Go.Sort.partitionEqual Go.Sort.ltInt (arr l3) a b p).1 < b - a
    omega
  obtain ⟨r1, r2, r3, r4, r5, r6, r7⟩ := Go.Sort.round_part (mid := (Go.Sort.partition Go.Sort.ltInt (arr l3) a b p).1) (ap := (Go.Sort.partition Go.Sort.ltInt (arr l3) a b p).2.1) (d4 := (Go.Sort.partition Go.Sort.ltInt (arr l3) a b p).2.2) Go.Sort.swo_ltInt (Go.Sort.partition_holds Go.Sort.ltInt) hpa hpb hb3 hbel3 (Prod.ext rfl (Prod.ext rfl rfl))
  have hl4 : (unarr (Go.Sort.partition Go.Sort.ltInt (arr l3) a b p).2.2).length = xs.length := by rw [unarr_len, r3, arr_size]; exact hl3
  have w1 : IntKind.i64.wrap (((Go.Sort.partition Go.Sort.ltInt (arr l3) a b p).1 : Int) - (a : Int)) = (((Go.Sort.partition Go.Sort.ltInt (arr l3) a b p).1 - a : Nat) : Int) := w64 (by omega) (by omega)
  have w2 : IntKind.i64.wrap ((b : Int) - ((Go.Sort.partition Go.Sort.ltInt (arr l3) a b p).1 : Int)) = ((b - (Go.Sort.partition Go.Sort.ltInt (arr l3) a b p).1 : Nat) : Int) := w64 (by omega) (by omega)
  have w3 : IntKind.i64.wrap (((Go.Sort.partition Go.Sort.ltInt (arr l3) a b p).1 : Int) + 1) = (((Go.Sort.partition Go.Sort.ltInt (arr l3) a b p).1 + 1 : Nat) : Int) := w64 (by omega) (by omega)
  have n3 : natD (D.I (IntKind.i64.wrap (((Go.Sort.partition Go.Sort.ltInt (arr l3) a b p).1 : Int) + 1))) = (Go.Sort.partition Go.Sort.ltInt (arr l3) a b p).1 + 1 := by show (IntKind.i64.wrap (((Go.Sort.partition Go.Sort.ltInt (arr l3) a b p).1 : Int) + 1)).toNat = _; rw [w3]; rfl
  refine ⟨hpre, ne0 rfl, fun h4 => ?_, fun h4 => ?_⟩
  · obtain ⟨s1, s2⟩ := segS_perm (a := a) (b := (Go.Sort.partition Go.Sort.ltInt (arr l3) a b p).1) (x := unarr (Go.Sort.partition Go.Sort.ltInt (arr l3) a b p).2.2) r1 (by omega)
    obtain ⟨t1, t2⟩ := r6 (arr (segS a (Go.Sort.partition Go.Sort.ltInt (arr l3) a b p).1 (unarr (Go.Sort.partition Go.Sort.ltInt (arr l3) a b p).2.2))) (by rw [arr_unarr] at s1; exact s1) s2
    refine ⟨⟨Int.natCast_nonneg _, Int.ofNat_le.2 r1, (by show ((Go.Sort.partition Go.Sort.ltInt (arr l3) a b p).1 : Int) ≤ ((unarr (Go.Sort.partition Go.Sort.ltInt (arr l3) a b p).2.2).length : Int); omega), (by show (unarr (Go.Sort.partition Go.Sort.ltInt (arr l3) a b p).2.2).length ≤ 1000000; omega), Int.natCast_nonneg _, (by show (lim1 : Int) ≤ 1000; omega), (by show (Go.Sort.partition Go.Sort.ltInt (arr l3) a b p).1 - a < n; have := I.hd; omega), (by show Go.Sort.Below Go.Sort.ltInt a (Go.Sort.partition Go.Sort.ltInt (arr l3) a b p).1 (arr (unarr (Go.Sort.partition Go.Sort.ltInt (arr l3) a b p).2.2)); rw [arr_unarr]; exact r4)⟩,
      ⟨(((Go.Sort.partition Go.Sort.ltInt (arr l3) a b p).1 + 1, b, lim1), (_, _), segS a (Go.Sort.partition Go.Sort.ltInt (arr l3) a b p).1 (unarr (Go.Sort.partition Go.Sort.ltInt (arr l3) a b p).2.2)), hlim1, I.step (a' := (Go.Sort.partition Go.Sort.ltInt (arr l3) a b p).1 + 1) (b' := b) (l' := segS a (Go.Sort.partition Go.Sort.ltInt (arr l3) a b p).1 (unarr (Go.Sort.partition Go.Sort.ltInt (arr l3) a b p).2.2)) hp3 (by omega) (by omega) (Nat.le_refl _) (by rw [segS_len r1 (by omega)]; exact hl4) t1 t2⟩,
      ⟨[], rfl, ⟨slot w3, rfl, rfl, rfl, rfl, rfl, trivial⟩, ⟨rfl, trivial⟩⟩, ?_⟩
    show b - ((Go.Sort.partition Go.Sort.ltInt (arr l3) a b p).1 + 1) < b - a
    omega
  · obtain ⟨s1, s2⟩ := segS_perm (a := (Go.Sort.partition Go.Sort.ltInt (arr l3) a b p).1 + 1) (b := b) (x := unarr (Go.Sort.partition Go.Sort.ltInt (arr l3) a b p).2.2) (by omega) (by omega)
    obtain ⟨t1, t2⟩ := r7 (arr (segS ((Go.Sort.partition Go.Sort.ltInt (arr l3) a b p).1 + 1) b (unarr (Go.Sort.partition Go.Sort.ltInt (arr l3) a b p).2.2))) (by rw [arr_unarr] at s1; exact s1) s2
    refine ⟨⟨(by show 0 ≤ IntKind.i64.wrap (((Go.Sort.partition Go.Sort.ltInt (arr l3) a b p).1 : Int) + 1); rw [w3]; omega), (by show IntKind.i64.wrap (((Go.Sort.partition Go.Sort.ltInt (arr l3) a b p).1 : Int) + 1) ≤ (b : Int); rw [w3]; omega), (by show (b : Int) ≤ ((unarr (Go.Sort.partition Go.Sort.ltInt (arr l3) a b p).2.2).length : Int); omega), (by show (unarr (Go.Sort.partition Go.Sort.ltInt (arr l3) a b p).2.2).length ≤ 1000000; omega), Int.natCast_nonneg _, (by show (lim1 : Int) ≤ 1000; omega), (by show b - natD (D.I (IntKind.i64.wrap (((Go.Sort.partition Go.Sort.ltInt (arr l3) a b p).1 : Int) + 1))) < n; rw [n3]; have := I.hd; omega), (by show Go.Sort.Below Go.Sort.ltInt (natD (D.I (IntKind.i64.wrap (((Go.Sort.partition Go.Sort.ltInt (arr l3) a b p).1 : Int) + 1)))) b (arr (unarr (Go.Sort.partition Go.Sort.ltInt (arr l3) a b p).2.2)); rw [n3, arr_unarr]; exact r5)⟩,
      ⟨((a, (Go.Sort.partition Go.Sort.ltInt (arr l3) a b p).1, lim1), (_, _), segS ((Go.Sort.partition Go.Sort.ltInt (arr l3) a b p).1 + 1) b (unarr (Go.Sort.partition Go.Sort.ltInt (arr l3) a b p).2.2)), hlim1, I.step (a' := a) (b' := (Go.Sort.partition Go.Sort.ltInt (arr l3) a b p).1) (l' := segS ((Go.Sort.partition Go.Sort.ltInt (arr l3) a b p).1 + 1) b (unarr (Go.Sort.partition Go.Sort.ltInt (arr l3) a b p).2.2)) hp3 r1 (Nat.le_refl _) (by omega) (by rw [segS_len (by omega) (by omega)]; exact hl4) t1 t2⟩,
      ⟨[], rfl, ⟨rfl, rfl, rfl, rfl, rfl, rfl, trivial⟩, ⟨gro (congrArg (fun q => segS q b (unarr (Go.Sort.partition Go.Sort.ltInt (arr l3) a b p).2.2)) n3), trivial⟩⟩, ?_⟩
    show (Go.Sort.partition Go.Sort.ltInt (arr l3) a b p).1 - a < b - a
    omega
/-! ### What is right of the sort's parts -/
theorem ctxZ {tb : List (Nat × Sh)} (ht : tabB Try.prog tb = true) {l : List (Nat × Sum)} (h : SumsOK Try.prog l) {ms : List (Nat × MI)} (hm : mapsB Try.prog ms = true) : CtxOK Try.prog ⟨tb, [], l, [], keep, ms⟩ := CtxOK.of ht (by rfl) h FunsOK.nil hm
theorem mixedZ : Try.prog.follows .mixedOrders = true := by kernel_rfl
theorem lessZ : SumsOK Try.prog [(51, sLess)] := .cons less_ok .nil
theorem rev_ok : MutOK Try.prog 49 mRev := mutOK_of_vc (c := cZ) (ctxZ (by kernel_rfl) lessZ (by rfl)) mixedZ Try.func49 rfl (by decide) rev_fun
theorem sift_ok : MutOK Try.prog 56 mSift := mutOK_of_vc (c := cZ) (ctxZ (by kernel_rfl) lessZ (by rfl)) mixedZ Try.func56 rfl (by decide) sift_fun
theorem heap_ok : MutOK Try.prog 46 mHeap := mutOK_of_vc (c := cHp) ((ctxZ (ms := []) (by kernel_rfl) lessZ (by rfl)).withM sift_ok) mixedZ Try.func46 rfl (by decide) heap_fun
theorem ord_ok : PtrOK Try.prog 62 sOrd := ptrOK_of_vc (c := cZ) (ctxZ (by kernel_rfl) lessZ (by rfl)) mixedZ Try.func62 rfl (by decide) ord_fun
theorem med_ok : PtrOK Try.prog 60 sMed := ptrOK_of_vc (c := cMd) ((ctxZ (ms := []) (by kernel_rfl) .nil (by rfl)).withP ord_ok) mixedZ Try.func60 rfl (by decide) med_fun
theorem adj_ok : PtrOK Try.prog 59 sAdj := ptrOK_of_vc (c := cAd) ((ctxZ (ms := []) (by kernel_rfl) .nil (by rfl)).withP med_ok) mixedZ Try.func59 rfl (by decide) adj_fun
theorem cho_ok : SumOK Try.prog 48 sCho := sumOK_of_vc (c := cCo) (((ctxZ (tb := tabH) (ms := []) (by kernel_rfl) .nil (by rfl)).withP adj_ok).withP med_ok) mixedZ Try.func48 rfl (by decide) @cho_fun
theorem peq_ok : MutOK Try.prog 52 mPeq := mutOK_of_vc (c := cZ) (ctxZ (by kernel_rfl) lessZ (by rfl)) mixedZ Try.func52 rfl (by decide) peq_fun
theorem part_ok : MutOK Try.prog 53 mPart := mutOK_of_vc (c := cZ) (ctxZ (by kernel_rfl) lessZ (by rfl)) mixedZ Try.func53 rfl (by decide) part_fun
theorem par_ok : MutOK Try.prog 50 mPar := mutOK_of_vc (c := cPar) (ctxZ (by kernel_rfl) lessZ (by rfl)) mixedZ Try.func50 rfl (by decide) par_fun
theorem len64_ok : SumOK Try.prog 55 sLen := sumOK_of_vc (c := cLen) (ctxZ (by kernel_rfl) .nil (by rfl)) mixedZ Try.func55 rfl (by decide) @len64_fun
theorem len_ok : SumOK Try.prog 43 sLen := sumOK_of_vc (c := cLen1) (ctxZ (by kernel_rfl) (.cons len64_ok .nil) (by rfl)) mixedZ Try.func43 rfl (by decide) @len_fun
theorem pow_ok : SumOK Try.prog 57 sPow := sumOK_of_vc (c := cPow) (ctxZ (by kernel_rfl) (.cons len_ok .nil) (by rfl)) mixedZ Try.func57 rfl (by decide) @pow_fun
theorem nxt_ok : PtrOK Try.prog 58 sNxt := ptrOK_of_vc (c := cNx) (ctxZ (by kernel_rfl) .nil (by rfl)) mixedZ Try.func58 rfl (by decide) nxt_fun
theorem brk_ok : MutOK Try.prog 47 mBrk := mutOK_of_vc (c := cBrk) ((ctxZ (tb := tabX) (ms := []) (by kernel_rfl) (.cons pow_ok .nil) (by rfl)).withP nxt_ok) mixedZ Try.func47 rfl (by decide) brk_fun
theorem pdqN_ok : ∀ n, MutOK Try.prog 42 (mPdqN n)
  | 0 => by
    intro g w x xs ds v0 vs _ _ _ _ ha hp
    match ds, hp with
    | [a, b, c], hp =>
      have h : 0 ≤ a.int ∧ a.int ≤ b.int ∧ b.int ≤ xs.length ∧ xs.length ≤ 1000000 ∧ 0 ≤ c.int ∧ c.int ≤ 1000 ∧ natD b - natD a < 0 ∧ Go.Sort.Below Go.Sort.ltInt (natD a) (natD b) (arr xs) := hp
      exact absurd h.2.2.2.2.2.2.1 (Nat.not_lt_zero _)
    | [], hp => exact (hp : False).elim
    | [_], hp => exact (hp : False).elim
    | [_, _], hp => exact (hp : False).elim
    | _ :: _ :: _ :: _ :: _, hp => exact (hp : False).elim
  | n + 1 => mutOK_of_vc (c := cPdq n) ((((((((ctxZ (tb := tabH) (ms := [(3134035, .flag true), (3134050, .flag true), (3134068, .flag true)]) (by kernel_rfl) (.cons less_ok (.cons cho_ok .nil)) (by rfl)).withM (pdqN_ok n)).withM part_ok).withM peq_ok).withM par_ok).withM rev_ok).withM brk_ok).withM heap_ok |>.withM ins_ok) mixedZ Try.func42 rfl (by decide) (pdqN_fun n)
def mSortZ : MSum := ⟨u64, [], fun xs _ => some (xs.length ≤ 1000000), fun _ _ => .tup [], fun xs _ => sortD xs⟩
noncomputable def cSo : Ctx := ⟨tabS, [], [(43, sLen)], [], keep, [(42 + 1000000, .msum (mPdqN 1000001))]⟩
theorem sortZ_fun : FunMOK cSo 100 Try.f38 mSortZ := fun xs hx h => by
  replace h : xs.length ≤ 1000000 := h
  have hw : IntKind.u64.wrap (xs.length : Int) = (xs.length : Int) := wrap_u64 (by omega) (by omega)
  have hn : natD (D.I (IntKind.u64.wrap (xs.length : Int))) = xs.length := by show (IntKind.u64.wrap (xs.length : Int)).toNat = _; rw [hw]; rfl
  have hb := bitsLen_20 h
  refine ⟨?_, ⟨Int.le_refl _, Int.natCast_nonneg _, Int.le_refl _, h, Int.natCast_nonneg _, ?_, ?_, .inl rfl⟩, ⟨rfl, bearsL_int ?_⟩, trivial⟩
  · show 0 ≤ IntKind.u64.wrap (xs.length : Int) ∧ IntKind.u64.wrap (xs.length : Int) ≤ 1000000
    rw [hw]; omega
  · show (Go.Sort.bitsLen (natD (D.I (IntKind.u64.wrap (xs.length : Int)))) : Int) ≤ 1000
    rw [hn]; omega
  · show xs.length - 0 < 1000001
    omega
  · show ints (segS 0 xs.length xs) = ints (sortD xs)
    simp [segS, sortD, ints_nums, ints, nums]
theorem sortZ_ok : MutOK Try.prog 38 mSortZ := mutOK_of_vc (c := cSo) ((ctxZ (ms := []) (by kernel_rfl) (.cons len_ok .nil) (by rfl)).withM (pdqN_ok 1000001)) mixedZ Try.func38 rfl (by decide) sortZ_fun
end Go.Proofs.Ytmcgebhffdedpaa
