/- Streams: which ones are right. -/
import Derived.Test.YtmcgebhffdedpaaProg
import Derived.Test.YtmcgebhffdedpaaWKa
import Derived.Test.YtmcgebhffdedpaaWTs
namespace Go.Proofs.Ytmcgebhffdedpaa
open Go Go.Vm
set_option linter.unusedSimpArgs false
set_option linter.unusedVariables false
set_option maxRecDepth 10000
abbrev u64 : Sh := .int .u64
abbrev i64 : Sh := .int .i64
abbrev idS : Sh := .struct [u64, u64]
abbrev storedS : Sh := .struct [idS, u64, u64, i64, i64]
def tabW : List (Nat × Sh) := [(47, storedS), (22, .slice storedS), (25, idS), (23, u64), (3, i64), (4, .bool), (35, .slice u64), (28, i64), (2, i64), (44, .struct [u64, i64, i64])]
def refsW : List (Nat × Value) := [(49, .map none), (58, .map none), (61, .nilFunc)]
def mpsW : List (Nat × MI) := [(49, .map u64 u64), (58, .map idS i64)]
def c0W : Ctx := ⟨tabW, refsW, [], [], keep, mpsW⟩
theorem tabWOK : tabB Try.prog tabW = true := by kernel_rfl
theorem refsWOK : refsB Try.prog refsW = true := by kernel_rfl
theorem mpsWOK : mapsB Try.prog mpsW = true := by kernel_rfl
theorem mixedW : Try.prog.follows .mixedOrders = true := by kernel_rfl
theorem ctxW {l : List (Nat × Sum)} (h : SumsOK Try.prog l) : CtxOK Try.prog ⟨tabW, refsW, l, [], keep, mpsW⟩ := CtxOK.of tabWOK refsWOK h FunsOK.nil mpsWOK
def cntB (n : Int) : Bool := leB 1 n && leB n 1099511627776
def sCnt : Sum := ⟨[u64], fun _ => none, fun
  | [n] => .dat .bool (.B (cntB n.int))
  | _ => .und⟩
theorem cnt_fun : FunOK c0W 60 Try.f27 sCnt := fun n hn _ => Bears.rfl
theorem cntR_fun : FunOK c0W 60 Try.f28 sCnt := fun n hn _ => Bears.rfl
def noS (x : D) : Int := ((x.nth 0).nth 1).int
def lbS (x : D) : Int := ((x.nth 0).nth 0).int
def orS (x : D) : Int := (x.nth 1).int
def tiS (x : D) : Int := (x.nth 2).int
def kiS (x : D) : Int := (x.nth 3).int
/-- The number of the last event with a label, of the first i ones. -/
def lstN (l : List D) (L : Int) : Nat → Int
  | 0 => 0
  | i + 1 => if lbS (l.getD i .Z) = L then noS (l.getD i .Z) else lstN l L i
def sLast : Sum := ⟨[.slice storedS, u64], fun _ => none, fun
  | [l, L] => .dat u64 (.I (lstN l.list L.int l.list.length))
  | _ => .und⟩
theorem lstN_skip {l : List D} {L : Int} : ∀ {n i : Nat}, i ≤ n → (∀ k, i ≤ k → k < n → lbS (l.getD k .Z) ≠ L) → lstN l L n = lstN l L i
  | 0, i, h, _ => by
    have : i = 0 := by omega
    subst this; rfl
  | n + 1, i, h, hk => by
    rcases Nat.lt_or_eq_of_le h with e | e
    · rw [lstN, if_neg (hk n (by omega) (by omega))]
      exact lstN_skip (by omega) fun k h1 h2 => hk k h1 (by omega)
    · subst e; rfl
theorem last_fun : FunOK c0W 60 Try.f29 sLast := fun l hl L hL _ => by
  simp only [InR] at hl
  have hl := hl.1
  have w0 : IntKind.i64.wrap ((l.list.length : Int) - 1) = (l.list.length : Int) - 1 := wrap_i64 (by omega) (by omega)
  refine ⟨{ k : Nat // k ≤ l.list.length ∧ ∀ j, k ≤ j → j < l.list.length → lbS (l.list.getD j .Z) ≠ L.int }, 0, fun k => ([(5, .dat i64 (.I ((k.1 : Int) - 1))), (0, .dat (.slice storedS) l), (1, .dat u64 (.I L.int))], []), fun k => k.1,
    ⟨l.list.length, Nat.le_refl _, fun j h1 h2 => absurd h1 (by omega)⟩, ⟨[], rfl, ⟨slot w0, rfl, rfl, trivial⟩, trivial⟩, ?_⟩
  intro k
  obtain ⟨k, hk, h0⟩ := k
  refine ⟨fun h1 => ?_, fun h1 => ?_⟩
  · replace h1 : leB 0 ((k : Int) - 1) = true := h1
    rw [leB_true] at h1
    obtain ⟨k, rfl⟩ : ∃ m, k = m + 1 := ⟨k - 1, by omega⟩
    have ek : ((k + 1 : Nat) : Int) - 1 = (k : Int) := by omega
    have wk : IntKind.i64.wrap (((k + 1 : Nat) : Int) - 1 - 1) = (k : Int) - 1 := by rw [ek]; exact wrap_i64 (by omega) (by omega)
    have hx : 0 ≤ ((k + 1 : Nat) : Int) - 1 ∧ ((k + 1 : Nat) : Int) - 1 < (l.list.length : Int) := by omega
    have et : (((k + 1 : Nat) : Int) - 1).toNat = k := by omega
    refine ⟨hx, fun h2 => ⟨hx, Bears.int ?_⟩, fun h2 => ?_⟩
    · replace h2 : (lbS (l.list.getD (((k + 1 : Nat) : Int) - 1).toNat .Z) == L.int) = true := h2
      rw [et, beq_iff_eq] at h2
      show noS (l.list.getD (((k + 1 : Nat) : Int) - 1).toNat .Z) = lstN l.list L.int l.list.length
      rw [et, lstN_skip hk h0, lstN, if_pos h2]
    · replace h2 : (lbS (l.list.getD (((k + 1 : Nat) : Int) - 1).toNat .Z) == L.int) = false := h2
      rw [et, beq_eq_false_iff_ne] at h2
      refine ⟨⟨k, by omega, fun j h3 h4 => ?_⟩, ⟨[], rfl, ⟨slot wk, rfl, rfl, trivial⟩, trivial⟩, Nat.lt_succ_self k⟩
      rcases Nat.lt_or_eq_of_le h3 with e | e
      · exact h0 j e h4
      · subst e; exact h2
  · replace h1 : leB 0 ((k : Int) - 1) = false := h1
    rw [leB_false] at h1
    have e : k = 0 := by omega
    subst e
    refine Bears.int ?_
    show (0 : Int) = lstN l.list L.int l.list.length
    rw [lstN_skip (Nat.zero_le _) h0]; rfl
def bad1 (x : D) : Bool := ltB (kiS x) 0 || ltB 25 (kiS x) || !cntB (noS x) || !cntB (orS x) || ltB 1099511627776 (tiS x)
def bad2 (l : List D) (i : Nat) : Bool := leB (noS (l.getD i .Z)) (lstN l (lbS (l.getD i .Z)) i) || ltB 0 (i : Int) && (leB (orS (l.getD i .Z)) (orS (l.getD (i - 1) .Z)) || ltB (tiS (l.getD i .Z)) (tiS (l.getD (i - 1) .Z)))
/-- The first place at which something is wrong; the number of places if nothing is. -/
def badAt (l : List D) : Nat → Nat
  | 0 => 0
  | n + 1 => if badAt l n < n then badAt l n else if (bad1 (l.getD n .Z) || bad2 l n) = true then n else n + 1
def chkE (l : List D) : Int := if 1000 < l.length then 4 else if badAt l l.length < l.length then (if bad1 (l.getD (badAt l l.length) .Z) = true then 2 else 9) else 0
def chkN (l : List D) : Int := if 1000 < l.length then 0 else if badAt l l.length < l.length then badAt l l.length else 0
def sChk : Sum := ⟨[.slice storedS], fun _ => none, fun
  | [l] => .tup [.dat i64 (.I (chkE l.list)), .dat i64 (.I (chkN l.list))]
  | _ => .und⟩
def mpL (l : List D) : Nat → List (D × D)
  | 0 => []
  | i + 1 => mPut (.I (lbS (l.getD i .Z))) (.I (noS (l.getD i .Z))) (mpL l i)
theorem mGet_mPut {z k v : D} {L : Int} : ∀ {es : List (D × D)}, mGet z L (mPut k v es) = if k.int = L then v else mGet z L es
  | [] => by simp [mPut, mGet]
  | (k', v') :: es => by
    have ih := mGet_mPut (z := z) (k := k) (v := v) (L := L) (es := es)
    simp only [mPut]
    by_cases h : k'.int = k.int
    · rw [if_pos h]
      simp only [mGet, h]
      split <;> rfl
    · rw [if_neg h]
      simp only [mGet, ih]
      by_cases h2 : k'.int = L
      · have : ¬ k.int = L := by omega
        simp [h2, this]
      · simp [h2]
theorem mpL_get {l : List D} {L : Int} : ∀ {i : Nat}, (mGet (D0 u64) L (mpL l i)).int = lstN l L i
  | 0 => rfl
  | i + 1 => by
    rw [mpL, mGet_mPut, lstN]
    by_cases h : lbS (l.getD i .Z) = L
    · rw [if_pos h, if_pos (by simpa using h)]; rfl
    · rw [if_neg h, if_neg (by simpa using h)]; exact mpL_get
theorem badAt_le (l : List D) : ∀ n, badAt l n ≤ n
  | 0 => Nat.le_refl _
  | n + 1 => by
    have := badAt_le l n
    rw [badAt]
    split
    · omega
    · split <;> omega
theorem badAt_go {l : List D} {i : Nat} (h : badAt l i = i) (hb : (bad1 (l.getD i .Z) || bad2 l i) = false) : badAt l (i + 1) = i + 1 := by
  rw [badAt, if_neg (by omega), if_neg (by rw [hb]; decide)]
theorem badAt_stop {l : List D} {i : Nat} (h : badAt l i = i) (hb : (bad1 (l.getD i .Z) || bad2 l i) = true) : ∀ n, i < n → badAt l n = i
  | n + 1, hn => by
    rcases Nat.lt_or_eq_of_le (Nat.le_of_lt_succ hn) with e | e
    · have h1 := badAt_stop h hb n e
      rw [badAt, if_pos (by omega)]; exact h1
    · subst e
      rw [badAt, if_neg (by omega), if_pos hb]
theorem chk_long {l : List D} (h : 1000 < l.length) : chkE l = 4 ∧ chkN l = 0 := ⟨if_pos h, if_pos h⟩
theorem chk_1 {l : List D} {i : Nat} (hl : ¬ 1000 < l.length) (hi : i < l.length) (h : badAt l i = i) (hb : bad1 (l.getD i .Z) = true) : chkE l = 2 ∧ chkN l = i := by
  have e := badAt_stop h (by rw [hb]; rfl) l.length hi
  rw [chkE, chkN, if_neg hl, if_neg hl, e, if_pos hi, if_pos hi, if_pos hb]; exact ⟨rfl, rfl⟩
theorem chk_2 {l : List D} {i : Nat} (hl : ¬ 1000 < l.length) (hi : i < l.length) (h : badAt l i = i) (h1 : bad1 (l.getD i .Z) = false) (h2 : bad2 l i = true) : chkE l = 9 ∧ chkN l = i := by
  have e := badAt_stop h (by rw [h1, h2]; rfl) l.length hi
  rw [chkE, chkN, if_neg hl, if_neg hl, e, if_pos hi, if_pos hi, if_neg (by rw [h1]; decide)]; exact ⟨rfl, rfl⟩
theorem chk_0 {l : List D} (hl : ¬ 1000 < l.length) (h : badAt l l.length = l.length) : chkE l = 0 ∧ chkN l = 0 := by
  rw [chkE, chkN, if_neg hl, if_neg hl, h, if_neg (Nat.lt_irrefl _), if_neg (Nat.lt_irrefl _)]; exact ⟨rfl, rfl⟩
def cCk : Ctx := ⟨tabW, refsW, [(27, sCnt)], [], keep, mpsW⟩
theorem lstN_take {l : List D} {L : Int} {i : Nat} (hi : i ≤ l.length) : ∀ {n : Nat}, n ≤ i → lstN (l.take i) L n = lstN l L n
  | 0, _ => rfl
  | n + 1, h => by
    have e : (l.take i).getD n .Z = l.getD n .Z := by
      rw [List.getD_eq_getElem?_getD, List.getD_eq_getElem?_getD, List.getElem?_take_of_lt (by omega)]
    rw [lstN, lstN, e, lstN_take hi (by omega)]
theorem chk_fun : FunOK cCk 100 Try.f6 sChk := fun l hl _ => by
  simp only [InR] at hl
  refine ⟨fun h1 => ?_, fun h1 => ?_⟩
  · replace h1 : ltB 1000 (l.list.length : Int) = true := h1
    rw [ltB_true] at h1
    have e := chk_long (l := l.list) (by omega)
    exact ⟨Bears.int e.1.symm, Bears.int e.2.symm, trivial⟩
  replace h1 : ltB 1000 (l.list.length : Int) = false := h1
  rw [ltB_false] at h1
  have hlen : ¬ 1000 < l.list.length := by omega
  refine ⟨{ i : Nat // i ≤ l.list.length ∧ badAt l.list i = i }, 1, fun i => ([(13, .dat i64 (.I i.1)), (12, .dat i64 (.I l.list.length)), (11, .dat (.slice storedS) l), (4, .mp 0 u64 u64), (0, .dat (.slice storedS) l)], [(0, .map u64 u64 (mpL l.list i.1))]), fun i => l.list.length - i.1,
    ⟨0, by omega, rfl⟩, ⟨[], rfl, ⟨rfl, rfl, rfl, rfl, rfl, trivial⟩, ⟨rfl, trivial⟩⟩, ?_⟩
  intro x
  obtain ⟨i, hi, hb⟩ := x
  have hw : ltB 0 (i : Int) = true → IntKind.i64.wrap ((i : Int) - 1) = ((i - 1 : Nat) : Int) ∧ 0 < i := fun hp => by
    simp only [ltB_true] at hp
    rw [wrap_i64 (by omega) (by omega)]; omega
  have hww : i < l.list.length → ltB 0 (i : Int) = true → 0 ≤ IntKind.i64.wrap ((i : Int) - 1) ∧ IntKind.i64.wrap ((i : Int) - 1) < (l.list.length : Int) := fun h hp => by
    rw [(hw hp).1]; omega
  refine ⟨fun h1 => ⟨ix (ltN h1), fun h2 => ?_, fun h2 => ⟨fun h3 => ⟨(hww (ltN h1) h3.1).1, (hww (ltN h1) h3.1).2⟩, fun h3 => ⟨(hww (ltN h1) h3.2.1).1, (hww (ltN h1) h3.2.1).2⟩, by kernel_rfl, fun h3 => ?_, fun h3 => ?_⟩⟩, fun h1 => ?_⟩
  · have hlt : i < l.list.length := ltN h1
    have e := chk_1 hlen hlt hb h2
    exact ⟨Bears.int e.1.symm, Bears.int e.2.symm, trivial⟩
  · have hlt : i < l.list.length := ltN h1
    have e := chk_2 hlen hlt hb h2 (by
      have h3 : (leB (noS (l.list.getD i .Z)) (mGet (D0 u64) (lbS (l.list.getD i .Z)) (mpL l.list i)).int || ltB 0 (i : Int) && (leB (orS (l.list.getD i .Z)) (orS (l.list.getD (IntKind.i64.wrap ((i : Int) - 1)).toNat .Z)) || ltB (tiS (l.list.getD i .Z)) (tiS (l.list.getD (IntKind.i64.wrap ((i : Int) - 1)).toNat .Z)))) = true := h3
      rw [mpL_get] at h3
      cases hp : ltB 0 (i : Int)
      · rw [hp, Bool.false_and, Bool.or_false] at h3
        rw [bad2, h3, Bool.true_or]
      · rw [(hw hp).1, Int.toNat_natCast] at h3
        exact h3)
    exact ⟨Bears.int e.1.symm, Bears.int e.2.symm, trivial⟩
  · have hlt : i < l.list.length := ltN h1
    have hb2 : bad2 l.list i = false := by
      have h3 : (leB (noS (l.list.getD i .Z)) (mGet (D0 u64) (lbS (l.list.getD i .Z)) (mpL l.list i)).int || ltB 0 (i : Int) && (leB (orS (l.list.getD i .Z)) (orS (l.list.getD (IntKind.i64.wrap ((i : Int) - 1)).toNat .Z)) || ltB (tiS (l.list.getD i .Z)) (tiS (l.list.getD (IntKind.i64.wrap ((i : Int) - 1)).toNat .Z)))) = false := h3
      rw [mpL_get] at h3
      cases hp : ltB 0 (i : Int)
      · rw [hp, Bool.false_and, Bool.or_false] at h3
        rw [bad2, h3, hp]; rfl
      · rw [(hw hp).1, Int.toNat_natCast] at h3
        exact h3
    have hb1 : bad1 (l.list.getD i .Z) = false := h2
    exact ⟨⟨i + 1, hlt, badAt_go hb (by rw [hb1, hb2]; rfl)⟩, ⟨[], rfl, ⟨slot (i64_1 (n := i) (by omega)), rfl, rfl, rfl, rfl, trivial⟩, ⟨rfl, trivial⟩⟩, stepLt hlt⟩
  · have e := geN hi h1
    subst e
    have e := chk_0 hlen hb
    exact ⟨Bears.int e.1.symm, Bears.int e.2.symm, trivial⟩
def cCkR : Ctx := ⟨tabW, refsW, [(28, sCnt), (29, sLast)], [], keep, mpsW⟩
theorem chkR_fun : FunOK cCkR 100 Try.f7 sChk := fun l hl _ => by
  simp only [InR] at hl
  refine ⟨fun h1 => ?_, fun h1 => ?_⟩
  · replace h1 : ltB 1000 (l.list.length : Int) = true := h1
    rw [ltB_true] at h1
    have e := chk_long (l := l.list) (by omega)
    exact ⟨Bears.int e.1.symm, Bears.int e.2.symm, trivial⟩
  replace h1 : ltB 1000 (l.list.length : Int) = false := h1
  rw [ltB_false] at h1
  have hlen : ¬ 1000 < l.list.length := by omega
  refine ⟨{ i : Nat // i ≤ l.list.length ∧ badAt l.list i = i }, 0, fun i => ([(4, .dat i64 (.I i.1)), (0, .dat (.slice storedS) l)], []), fun i => l.list.length - i.1,
    ⟨0, by omega, rfl⟩, ⟨[], rfl, ⟨rfl, rfl, trivial⟩, trivial⟩, ?_⟩
  intro x
  obtain ⟨i, hi, hb⟩ := x
  have hw : ltB 0 (i : Int) = true → IntKind.i64.wrap ((i : Int) - 1) = ((i - 1 : Nat) : Int) ∧ 0 < i := fun hp => by
    simp only [ltB_true] at hp
    rw [wrap_i64 (by omega) (by omega)]; omega
  have hww : i < l.list.length → ltB 0 (i : Int) = true → 0 ≤ IntKind.i64.wrap ((i : Int) - 1) ∧ IntKind.i64.wrap ((i : Int) - 1) < (l.list.length : Int) := fun h hp => by
    rw [(hw hp).1]; omega
  have hpre : lstN ((l.list.drop 0).take ((i : Int) - 0).toNat) (lbS (l.list.getD i .Z)) ((l.list.drop 0).take ((i : Int) - 0).toNat).length = lstN l.list (lbS (l.list.getD i .Z)) i := by
    have e1 : ((i : Int) - 0).toNat = i := by omega
    have e2 : (l.list.take i).length = i := by rw [List.length_take]; omega
    rw [e1, List.drop_zero, e2, lstN_take hi (Nat.le_refl _)]
  have hbad : ∀ b : Bool, (ltB 0 (i : Int) && (leB (orS (l.list.getD i .Z)) (orS (l.list.getD (IntKind.i64.wrap ((i : Int) - 1)).toNat .Z)) || ltB (tiS (l.list.getD i .Z)) (tiS (l.list.getD (IntKind.i64.wrap ((i : Int) - 1)).toNat .Z))) || leB (noS (l.list.getD i .Z)) (lstN ((l.list.drop 0).take ((i : Int) - 0).toNat) (lbS (l.list.getD i .Z)) ((l.list.drop 0).take ((i : Int) - 0).toNat).length)) = b → bad2 l.list i = b := fun b h3 => by
    rw [hpre, Bool.or_comm] at h3
    cases hp : ltB 0 (i : Int)
    · rw [hp, Bool.false_and, Bool.or_false] at h3
      rw [bad2, h3, hp, Bool.false_and, Bool.or_false]
    · rw [(hw hp).1, Int.toNat_natCast] at h3
      exact h3
  refine ⟨fun h1 => ⟨ix (ltN h1), fun h2 => ?_, fun h2 => ⟨fun h3 => ⟨(hww (ltN h1) h3).1, (hww (ltN h1) h3).2⟩, fun h3 => ⟨(hww (ltN h1) h3.2).1, (hww (ltN h1) h3.2).2⟩, fun h3 => ⟨Int.le_refl _, Int.natCast_nonneg _, Int.ofNat_le.2 hi⟩, by kernel_rfl, fun h3 => ?_, fun h3 => ?_⟩⟩, fun h1 => ?_⟩
  · have hlt : i < l.list.length := ltN h1
    have e := chk_1 hlen hlt hb h2
    exact ⟨Bears.int e.1.symm, Bears.int e.2.symm, trivial⟩
  · have hlt : i < l.list.length := ltN h1
    have e := chk_2 hlen hlt hb h2 (hbad true h3)
    exact ⟨Bears.int e.1.symm, Bears.int e.2.symm, trivial⟩
  · have hlt : i < l.list.length := ltN h1
    have hb1 : bad1 (l.list.getD i .Z) = false := h2
    exact ⟨⟨i + 1, hlt, badAt_go hb (by rw [hb1, hbad false h3]; rfl)⟩, ⟨[], rfl, ⟨slot (i64_1 (n := i) (by omega)), rfl, trivial⟩, trivial⟩, stepLt hlt⟩
  · have e := geN hi h1
    subst e
    have e := chk_0 hlen hb
    exact ⟨Bears.int e.1.symm, Bears.int e.2.symm, trivial⟩
end Go.Proofs.Ytmcgebhffdedpaa
