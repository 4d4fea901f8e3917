/- Accounts of rings: the law's 'made'. -/
import Derived.Test.YtlmokgfjfogdoaaGs
import Derived.Test.YtlmokgfjfogdoaaGp
namespace Go.Proofs.Ytlmokgfjfogdoaa
open Go Go.Vm
set_option linter.unusedSimpArgs false
set_option maxRecDepth 10000
def madeSt (sz : Int) (nums : List D) : Nat → St
  | 0 => ⟨.L [.I 2, .I sz, .I 1, .I 1, D0 (.arr 64 storedS)], [], 0, 0⟩
  | n + 1 => roundSt (madeSt sz nums n) (modI (nums.getD n .Z).int 1048576)
def madeN (nums : List D) : Nat := min nums.length 40
def madeZ (size : Int) : Int := 1 + modI size 8
def sMade : Sum := ⟨[i64, .slice i64], fun _ => none, fun
  | [s, l] => .tup [.dat ringS (madeSt (madeZ s.int) l.list (madeN l.list)).r, .dat (.slice storedS) (.L (madeSt (madeZ s.int) l.list (madeN l.list)).all), .dat .bool (.B true)]
  | _ => .und⟩
def tabM : List (Nat × Sh) := (54, .slice i64) :: tab
def cMade : Ctx := ⟨tabM, [], [(33, sMod), (21, sNew), (27, sEvict), (25, sPut), (23, sCheck)], [], keep, []⟩
theorem made0 {sz : Int} (h1 : 1 ≤ sz) (h2 : sz ≤ 8) : InvSt sz 0 ⟨.L [.I 2, .I sz, .I 1, .I 1, D0 (.arr 64 storedS)], [], 0, 0⟩ where
  ok := by
    refine chk_ok.2 ⟨?_, fun k hk => by simp [cap] at hk, fun j _ _ => ?_⟩
    · have e : IntKind.u64.wrap (1 - 1) = 0 := by decide
      have e2 := wrap_u64 (n := sz) (by omega) (by omega)
      simp only [badR, D.nth_L, List.getD_cons_zero, List.getD_cons_succ, D.int_I, e, e2, Bool.or_eq_false_iff, ltB_false]; omega
    · show (!eqD storedS (D0 storedS) (D0 storedS)) = false
      rw [eqStored]; rfl
  lab := rfl
  siz := rfl
  nxt := rfl
  len := Nat.le_refl _
  ev := fun k hk => by simp [cap] at hk
  ord0 := by simp
  now0 := by simp
  last := by
    show (0 : Int) ≤ 0 ∧ (0 : Int) ≤ 0
    omega
theorem made_inv {sz : Int} (h1 : 1 ≤ sz) (h2 : sz ≤ 8) (nums : List D) : ∀ n, n ≤ 40 → InvSt sz n (madeSt sz nums n)
  | 0, _ => made0 h1 h2
  | n + 1, h => round_inv (made_inv h1 h2 nums n (by omega)) (by omega)
theorem made_evF {sz : Int} {i : Nat} {s : St} (I : InvSt sz i s) (hi : i < 40) {o k : Int} (v : Int) (ho : s.ord < o) (ho4 : o ≤ s.ord + 4) (hk : 0 ≤ k) (hk2 : k ≤ 25) :
    evF (s.r.nth 0).int (s.r.nth 3).int (newD s.r o s.now k v) (bef s.r (cap s.r)) = 0 := by
  have h3 := I.ord0
  have h4 := I.now0
  have h5 := I.last
  have h : eqD idS ((newD s.r o s.now k v).nth 0) (idD (s.r.nth 0).int (s.r.nth 3).int) = true := by simp [eqD, eqDs, newD, idD]
  have g2 : (ltB k 0 || ltB 25 k) = false := by simp only [Bool.or_eq_false_iff, ltB_false]; omega
  have g3 : (ltB o 1 || ltB 1099511627776 o || ltB 1099511627776 s.now) = false := by simp only [Bool.or_eq_false_iff, ltB_false]; omega
  have g4 : (leB o ((bef s.r (cap s.r)).nth 1).int || ltB s.now ((bef s.r (cap s.r)).nth 2).int) = false := by simp only [Bool.or_eq_false_iff, leB_false, ltB_false]; omega
  simp only [evF, h, Bool.true_eq_false, if_false]
  show (if (ltB k 0 || ltB 25 k) = true then (11 : Int) else if (ltB o 1 || ltB 1099511627776 o || ltB 1099511627776 s.now) = true then 2 else if (leB o ((bef s.r (cap s.r)).nth 1).int || ltB s.now ((bef s.r (cap s.r)).nth 2).int) = true then 9 else 0) = 0
  rw [g2, g3, g4]; rfl
theorem made_fun : FunOK cMade 100 Try.f32 sMade := fun s _ l hl _ => by
  have hm := modI_range (a := s.int) (n := 8) (by omega) (by omega)
  have hw : IntKind.i64.wrap (1 + modI s.int 8) = 1 + modI s.int 8 := wrap_i64 (by omega) (by omega)
  have hz : (ltB (IntKind.i64.wrap (1 + modI s.int 8)) 1 || ltB 64 (IntKind.i64.wrap (1 + modI s.int 8))) = false := by
    rw [hw]; simp only [Bool.or_eq_false_iff, ltB_false]; omega
  refine ⟨{ x : Nat × St // x.1 ≤ madeN l.list ∧ x.2 = madeSt (madeZ s.int) l.list x.1 }, 5, fun x => ([(1, .dat (.slice i64) l), (4, .ptr 0 ringS [] ringS), (7, .ptr 2 ringS [] ringS), (8, .dat i64 (.I 0)), (9, .own 4 storedS), (10, .dat u64 (.I x.1.2.ord)), (11, .dat u64 (.I x.1.2.now)), (12, .dat i64 (.I x.1.1))],
    [(4, .grow storedS x.1.2.all), (2, .box ringS (.dat ringS x.1.2.r)), (0, .box ringS (.dat ringS (D0 ringS)))]), fun x => madeN l.list - x.1.1, ⟨(0, madeSt (madeZ s.int) l.list 0), by omega, rfl⟩, ⟨[(4, 3)], rfl, ⟨rfl, rfl, rfl, ?_, rfl, rfl, rfl, rfl, trivial⟩, ⟨rfl, ?_, rfl, trivial⟩⟩, ?_⟩
  · refine congrArg (fun n => some (HV.dat i64 (D.I n))) ?_
    show (if ltB (IntKind.i64.wrap (1 + modI s.int 8)) 1 || ltB 64 (IntKind.i64.wrap (1 + modI s.int 8)) then (2 : Int) else 0) = 0
    rw [hz]; rfl
  · refine congrArg (fun n => some (VO.box ringS (HV.dat ringS n))) ?_
    show (if ltB (IntKind.i64.wrap (1 + modI s.int 8)) 1 || ltB 64 (IntKind.i64.wrap (1 + modI s.int 8)) then D0 ringS else .L [.I 2, .I (IntKind.i64.wrap (1 + modI s.int 8)), .I 1, .I 1, D0 (.arr 64 storedS)]) = (madeSt (madeZ s.int) l.list 0).r
    rw [hz, hw]; rfl
  intro x
  obtain ⟨⟨i, S⟩, hi, hS'⟩ := x
  simp only at hi hS'
  have hN : madeN l.list = min l.list.length 40 := rfl
  have I := made_inv (sz := madeZ s.int) (by unfold madeZ; omega) (by unfold madeZ; omega) l.list i (by omega)
  have hk := modI_range (a := (l.list.getD i .Z).int) (n := 1048576) (by omega) (by omega)
  have hS : madeSt (madeZ s.int) l.list (i + 1) = roundSt (madeSt (madeZ s.int) l.list i) (modI (l.list.getD i .Z).int 1048576) := rfl
  have hz : i < 40 → i < madeN l.list → InvSt (madeZ s.int) (i + 1) (roundSt (madeSt (madeZ s.int) l.list i) (modI (l.list.getD i .Z).int 1048576)) := fun h _ => round_inv I h
  clear hl
  generalize hK : modI (l.list.getD i .Z).int 1048576 = k at *
  have q3 : IntKind.i64.wrap (k.tdiv 3) = k / 3 := by rw [Int.tdiv_eq_ediv_of_nonneg hk.1]; exact wrap_i64 (by omega) (by omega)
  have q12 : IntKind.i64.wrap (k.tdiv 12) = k / 12 := by rw [Int.tdiv_eq_ediv_of_nonneg hk.1]; exact wrap_i64 (by omega) (by omega)
  have m3 : (k / 3).tmod 3 = k / 3 % 3 := Int.tmod_eq_emod_of_nonneg (by omega)
  have m4 : (k / 3).tmod 4 = k / 3 % 4 := Int.tmod_eq_emod_of_nonneg (by omega)
  have m26 : (k / 12).tmod 26 = k / 12 % 26 := Int.tmod_eq_emod_of_nonneg (by omega)
  have mk3 : k.tmod 3 = k % 3 := Int.tmod_eq_emod_of_nonneg (by omega)
  rw [← hS'] at I hS hz
  have hord : (0 : Int) ≤ 0 → IntKind.u64.wrap (S.ord + IntKind.u64.wrap (IntKind.i64.wrap (1 + (IntKind.i64.wrap (k.tdiv 3)).tmod 4))) = S.ord + (1 + k / 3 % 4) := fun _ => by
    have o0 := I.ord0
    rw [q3, m4, wrap_i64 (by omega) (by omega), wrap_u64 (n := 1 + k / 3 % 4) (by omega) (by omega), wrap_u64 (by omega) (by omega)]
  have o0 := I.ord0
  have n0 := I.now0
  have hlen := I.len
  refine ⟨fun h1 => ⟨?_, by decide, fun h2 => ⟨by decide, by decide, ?_⟩, fun h2 => ⟨by decide, by decide, by decide, by decide, fun h3 => ?_, fun h3 => ⟨by decide, by decide, ?_, ?_⟩⟩⟩, fun h1 => ?_⟩
  all_goals replace h1 : (ltB (i : Int) (l.list.length : Int) && ltB (i : Int) 40 && true) = _ := h1
  all_goals simp only [Bool.and_eq_true, Bool.and_true, ltB_true, Bool.and_eq_false_iff, ltB_false] at h1
  · show 0 ≤ (i : Int) ∧ (i : Int) < l.list.length
    omega
  · have h2' : (modI (l.list.getD i .Z).int 1048576).tmod 3 = 0 := by simpa using h2
    rw [hK, mk3] at h2'
    have ht : IntKind.u64.wrap (S.now + IntKind.u64.wrap ((IntKind.i64.wrap (k.tdiv 3)).tmod 3)) = S.now + k / 3 % 3 := by
      rw [q3, m3, wrap_u64 (n := k / 3 % 3) (by omega) (by omega), wrap_u64 (by omega) (by omega)]
    have hE := ev_inv I (by omega) (t := S.now + k / 3 % 3) (by omega) (by omega)
    have hR : roundSt S k = evSt S (S.now + k / 3 % 3) := by simp only [roundSt, if_pos h2']
    refine ⟨⟨(i + 1, roundSt S k), by show i + 1 ≤ _; omega, hS.symm⟩, ⟨[], rfl, ⟨rfl, rfl, rfl, slot ?_, rfl, slot ?_, slot ?_, slot ?_, trivial⟩, ⟨gro ?_, bx ?_, rfl, trivial⟩⟩, ?_⟩
    · show evE S.r (IntKind.u64.wrap (S.now + IntKind.u64.wrap ((IntKind.i64.wrap ((modI (l.list.getD i .Z).int 1048576).tdiv 3)).tmod 3))) 3 = 0
      rw [hK, ht]; exact hE.1
    · show S.ord = (roundSt S k).ord
      rw [hR]; rfl
    · show IntKind.u64.wrap (S.now + IntKind.u64.wrap ((IntKind.i64.wrap ((modI (l.list.getD i .Z).int 1048576).tdiv 3)).tmod 3)) = (roundSt S k).now
      rw [hK, ht, hR]; rfl
    · exact i64_1 (n := i) (by omega)
    · show S.all = (roundSt S k).all
      rw [hR]; rfl
    · show (if evE S.r (IntKind.u64.wrap (S.now + IntKind.u64.wrap ((IntKind.i64.wrap ((modI (l.list.getD i .Z).int 1048576).tdiv 3)).tmod 3))) 3 ≠ 0 then D0 ringS else evR S.r (evN S.r (IntKind.u64.wrap (S.now + IntKind.u64.wrap ((IntKind.i64.wrap ((modI (l.list.getD i .Z).int 1048576).tdiv 3)).tmod 3))) 3)) = (roundSt S k).r
      rw [hK, ht, hR, if_neg (by simp [hE.1])]; rfl
    · show madeN l.list - (i + 1) < madeN l.list - i
      omega
  · replace h3 : (putE S.r (IntKind.u64.wrap (S.ord + IntKind.u64.wrap (IntKind.i64.wrap (1 + (IntKind.i64.wrap ((modI (l.list.getD i .Z).int 1048576).tdiv 3)).tmod 4)))) S.now ((IntKind.i64.wrap ((modI (l.list.getD i .Z).int 1048576).tdiv 12)).tmod 26) (modI (l.list.getD i .Z).int 1048576) == 6) = true := h3
    have h2' : ¬ (modI (l.list.getD i .Z).int 1048576).tmod 3 = 0 := by simpa using h2
    rw [hK, mk3] at h2'
    have ho := hord (by omega)
    rw [hK, ho, q12, m26] at h3
    simp only [beq_iff_eq] at h3
    have hf : (cap S.r : Int) = (S.r.nth 1).int := by
      refine Decidable.by_contra fun hf => ?_
      have := (put_inv I (by omega) hf (o := S.ord + (1 + k / 3 % 4)) (k := k / 12 % 26) (v := k) (by omega) (by omega) (by omega) (by omega)).1
      omega
    have hR : roundSt S k = ⟨S.r, S.all, S.ord + (1 + k / 3 % 4), S.now⟩ := by simp only [roundSt, if_neg h2', if_pos hf]
    refine ⟨⟨(i + 1, roundSt S k), by show i + 1 ≤ _; omega, hS.symm⟩, ⟨[], rfl, ⟨rfl, rfl, rfl, rfl, rfl, slot ?_, slot ?_, slot ?_, trivial⟩, ⟨gro ?_, bx ?_, rfl, trivial⟩⟩, ?_⟩
    · show IntKind.u64.wrap (S.ord + IntKind.u64.wrap (IntKind.i64.wrap (1 + (IntKind.i64.wrap ((modI (l.list.getD i .Z).int 1048576).tdiv 3)).tmod 4))) = (roundSt S k).ord
      rw [hK, ho, hR]
    · show S.now = (roundSt S k).now
      rw [hR]
    · exact i64_1 (n := i) (by omega)
    · show S.all = (roundSt S k).all
      rw [hR]
    · show S.r = (roundSt S k).r
      rw [hR]
    · show madeN l.list - (i + 1) < madeN l.list - i
      omega
  · show S.all.length + 1 ≤ 1073741824
    omega
  · replace h3 : (putE S.r (IntKind.u64.wrap (S.ord + IntKind.u64.wrap (IntKind.i64.wrap (1 + (IntKind.i64.wrap ((modI (l.list.getD i .Z).int 1048576).tdiv 3)).tmod 4)))) S.now ((IntKind.i64.wrap ((modI (l.list.getD i .Z).int 1048576).tdiv 12)).tmod 26) (modI (l.list.getD i .Z).int 1048576) == 6) = false := h3
    have h2' : ¬ (modI (l.list.getD i .Z).int 1048576).tmod 3 = 0 := by simpa using h2
    rw [hK, mk3] at h2'
    have ho := hord (by omega)
    rw [hK, ho, q12, m26] at h3
    simp only [beq_eq_false_iff_ne, ne_eq] at h3
    have hev := made_evF I (by omega) (o := S.ord + (1 + k / 3 % 4)) (k := k / 12 % 26) k (by omega) (by omega) (by omega) (by omega)
    have hf : ¬ (cap S.r : Int) = (S.r.nth 1).int := by
      intro hf
      exact h3 (put_full (S.ord + (1 + k / 3 % 4)) S.now (k / 12 % 26) k I.ok (by rw [hev]; rfl) (by rw [hf]; simp)).2.symm
    have hP := put_inv I (by omega) hf (o := S.ord + (1 + k / 3 % 4)) (k := k / 12 % 26) (v := k) (by omega) (by omega) (by omega) (by omega)
    have hR : roundSt S k = putSt S (S.ord + (1 + k / 3 % 4)) (k / 12 % 26) k := by simp only [roundSt, if_neg h2', if_neg hf]
    have hn : newD S.r (S.ord + (1 + k / 3 % 4)) S.now (k / 12 % 26) k = .L [.L [.I 2, .I (IntKind.u64.wrap (IntKind.i64.wrap ((S.all.length : Int) + 1)))], .I (S.ord + (1 + k / 3 % 4)), .I S.now, .I (k / 12 % 26), .I k] := by
      rw [wrap_i64 (by omega) (by omega), wrap_u64 (by omega) (by omega)]
      simp only [newD, idD, I.lab, I.nxt]
    refine ⟨⟨(i + 1, roundSt S k), by show i + 1 ≤ _; omega, hS.symm⟩, ⟨[(4, 7)], rfl, ⟨rfl, rfl, rfl, slot ?_, rfl, slot ?_, slot ?_, slot ?_, trivial⟩, ⟨gro ?_, bx ?_, rfl, trivial⟩⟩, ?_⟩
    · show putE S.r (IntKind.u64.wrap (S.ord + IntKind.u64.wrap (IntKind.i64.wrap (1 + (IntKind.i64.wrap ((modI (l.list.getD i .Z).int 1048576).tdiv 3)).tmod 4)))) S.now ((IntKind.i64.wrap ((modI (l.list.getD i .Z).int 1048576).tdiv 12)).tmod 26) (modI (l.list.getD i .Z).int 1048576) = 0
      rw [hK, ho, q12, m26]; exact hP.1
    · show IntKind.u64.wrap (S.ord + IntKind.u64.wrap (IntKind.i64.wrap (1 + (IntKind.i64.wrap ((modI (l.list.getD i .Z).int 1048576).tdiv 3)).tmod 4))) = (roundSt S k).ord
      rw [hK, ho, hR]; rfl
    · show S.now = (roundSt S k).now
      rw [hR]; rfl
    · exact i64_1 (n := i) (by omega)
    · show S.all ++ [.L [.L [.I 2, .I (IntKind.u64.wrap (IntKind.i64.wrap ((S.all.length : Int) + 1)))], .I (IntKind.u64.wrap (S.ord + IntKind.u64.wrap (IntKind.i64.wrap (1 + (IntKind.i64.wrap ((modI (l.list.getD i .Z).int 1048576).tdiv 3)).tmod 4)))), .I S.now, .I ((IntKind.i64.wrap ((modI (l.list.getD i .Z).int 1048576).tdiv 12)).tmod 26), .I (modI (l.list.getD i .Z).int 1048576)]] = (roundSt S k).all
      rw [hK, ho, q12, m26, hR, ← hn]; rfl
    · show putR S.r (IntKind.u64.wrap (S.ord + IntKind.u64.wrap (IntKind.i64.wrap (1 + (IntKind.i64.wrap ((modI (l.list.getD i .Z).int 1048576).tdiv 3)).tmod 4)))) S.now ((IntKind.i64.wrap ((modI (l.list.getD i .Z).int 1048576).tdiv 12)).tmod 26) (modI (l.list.getD i .Z).int 1048576) = (roundSt S k).r
      rw [hK, ho, q12, m26, hR, putR, if_neg (by simp [hP.1])]; rfl
    · show madeN l.list - (i + 1) < madeN l.list - i
      omega
  · have e : i = madeN l.list := by omega
    subst e
    have hc := I.ok
    refine ⟨by kernel_rfl, Bears.same ?_, Bears.same ?_, Bears.bool ?_, trivial⟩
    · show Same ringS S.r _
      rw [← hS']; exact Same.rfl
    · show Same (.slice storedS) (.L S.all) _
      rw [← hS']; exact Same.rfl
    · show (true && chk S.r == 0) = true
      rw [hc]; rfl
theorem tabMOK : tabB Try.prog tabM = true := by kernel_rfl
theorem ctxMOK {l : List (Nat × Sum)} (h : SumsOK Try.prog l) : CtxOK Try.prog ⟨tabM, [], l, [], keep, []⟩ := CtxOK.of tabMOK rfl h FunsOK.nil
theorem made_ok : SumOK Try.prog 32 sMade := sumOK_of_vc (c := cMade) (ctxMOK (.cons mod_ok (.cons new_ok (.cons evict_ok (.cons put_ok' (.cons check_ok .nil)))))) mixed Try.func32 rfl (by decide) @made_fun
end Go.Proofs.Ytlmokgfjfogdoaa
