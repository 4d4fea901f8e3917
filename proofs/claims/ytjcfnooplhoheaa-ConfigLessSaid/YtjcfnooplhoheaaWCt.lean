/- Accounts of configurations: places, what lies below a label. -/
import Derived.Test.YtjcfnooplhoheaaWCp
namespace Go.Proofs.Ytjcfnooplhoheaa
open Go Go.Vm
set_option linter.unusedSimpArgs false
set_option maxRecDepth 10000
def sSameU : Sum := ⟨[.slice u64, .slice u64], fun _ => none, fun
  | [a, b] => .dat .bool (.B (sameI a.list b.list))
  | _ => .und⟩
theorem sameU_fun : FunOK c0 60 Try.f59 sSameU := fun a ha b hb _ => by
  simp only [InR] at ha hb
  have ha := ha.1
  have hb := hb.1
  refine ⟨fun h1 => Bears.bool ?_, fun h1 => ?_⟩
  all_goals replace h1 : ((a.list.length : Int) != (b.list.length : Int)) = _ := h1
  · show false = sameI a.list b.list
    simp only [bne_iff_ne, ne_eq, Int.natCast_inj] at h1
    simp only [sameI, beq_eq_false_iff_ne.mpr h1, Bool.false_and]
  simp only [bne_eq_false_iff_eq, Int.natCast_inj] at h1
  refine ⟨{ i : Nat // i ≤ a.list.length ∧ ∀ k, k < i → ((a.list.getD k .Z).int == (b.list.getD k .Z).int) = true }, 0, fun i => ([(5, .dat i64 (.I i.1)), (0, .dat (.slice u64) a), (1, .dat (.slice u64) b)], []), fun i => a.list.length - i.1,
    ⟨0, by omega, fun k h => by omega⟩, ⟨[], rfl, ⟨rfl, rfl, rfl, trivial⟩, trivial⟩, ?_⟩
  intro x
  obtain ⟨i, hi, h0⟩ := x
  have hlt : ltB (i : Int) (a.list.length : Int) = true → i < a.list.length := ltN
  have hge : ltB (i : Int) (a.list.length : Int) = false → i = a.list.length := geN hi
  refine ⟨fun h2 => ⟨ix (hlt h2), ix (h1 ▸ hlt h2), by kernel_rfl, fun h3 => Bears.bool ?_, fun h3 => ?_⟩, fun h2 => Bears.bool ?_⟩
  · replace h3 : ((a.list.getD i .Z).int != (b.list.getD i .Z).int) = true := h3
    show false = sameI a.list b.list
    rw [sameI, not_all_range (hlt h2) (by simpa [bne] using h3), Bool.and_false]
  · replace h3 : ((a.list.getD i .Z).int != (b.list.getD i .Z).int) = false := h3
    have := hlt h2
    exact ⟨⟨i + 1, by omega, upto h0 (by simpa [bne] using h3)⟩, ⟨[], rfl, ⟨slot (i64_1 (n := i) (by omega)), rfl, rfl, trivial⟩, trivial⟩, by show _ - (i + 1) < _ - i; omega⟩
  · have e := hge h2
    show true = sameI a.list b.list
    rw [sameI, all_range (fun k hk => h0 k (by omega)), h1]; simp
def sel (p : Nat → Bool) (f : Nat → D) : Nat → List D
  | 0 => []
  | n + 1 => sel p f n ++ if p n = true then [f n] else []
theorem sel_len (p : Nat → Bool) (f : Nat → D) : ∀ n, (sel p f n).length ≤ n
  | 0 => Nat.le_refl 0
  | n + 1 => by
    have := sel_len p f n
    rw [sel, List.length_append]
    split <;> simp <;> omega
theorem tbl_map (l : List D) (g : D → D) : tbl (fun k => g (l.getD k .Z)) l.length = l.map g := by
  have : ∀ n, n ≤ l.length → tbl (fun k => g (l.getD k .Z)) n = (l.take n).map g := by
    intro n
    induction n with
    | zero => intro _; rfl
    | succ n ih =>
      intro h
      rw [tbl, ih (by omega), List.take_add_one, List.map_append, List.getElem?_eq_getElem (by omega), List.getD_eq_getElem?_getD, List.getElem?_eq_getElem (by omega)]
      rfl
  rw [this _ (Nat.le_refl _), List.take_length]
theorem pick_map (p : Nat → Bool) (f : Nat → D) : ∀ n, (pick p n).map (fun d => f d.int.toNat) = sel p f n
  | 0 => rfl
  | n + 1 => by
    rw [pick_succ, List.map_append, pick_map p f n, sel]
    split <;> rfl
theorem pick_get {p : Nat → Bool} : ∀ {n k : Nat}, k < (pick p n).length → ∃ j, j < n ∧ p j = true ∧ (pick p n).getD k .Z = .I j
  | 0, k, h => by simp [pick] at h
  | n + 1, k, h => by
    rw [pick_succ] at h ⊢
    by_cases h1 : k < (pick p n).length
    · obtain ⟨j, j1, j2, j3⟩ := pick_get h1
      exact ⟨j, by omega, j2, by rw [getD_app_l h1, j3]⟩
    · by_cases hp : p n = true
      · rw [if_pos hp] at h ⊢
        simp only [List.length_append, List.length_singleton] at h
        have e : k = (pick p n).length := by omega
        subst e
        exact ⟨n, by omega, hp, getD_app_r⟩
      · rw [if_neg hp] at h
        simp at h; omega
def lS (c : D) (L : Int) : List D := if chE c ≠ 0 then [] else pick (seeB c L) (nC c)
def idx (c : D) (L : Int) (k : Nat) : Nat := ((lS c L).getD k .Z).int.toNat
theorem lS_get {c : D} {L : Int} {k : Nat} (h : k < (lS c L).length) : chE c = 0 ∧ idx c L k < nC c ∧ seeB c L (idx c L k) = true ∧ ((lS c L).getD k .Z).int = idx c L k := by
  have h0 : chE c = 0 := by
    by_cases h1 : chE c = 0
    · exact h1
    · rw [lS, if_pos h1] at h; simp at h
  rw [idx]
  rw [lS, if_neg (by simp [h0])] at h ⊢
  obtain ⟨j, j1, j2, j3⟩ := pick_get h
  rw [j3]
  exact ⟨h0, j1, j2, by simp⟩
theorem lS_len {c : D} {L : Int} : (lS c L).length ≤ 8 := by
  by_cases h1 : chE c = 0
  · have := nC_le h1
    have := pick_len (seeB c L) (nC c)
    rw [lS, if_neg (by simp [h1])]; omega
  · rw [lS, if_pos h1]; simp
def plS (c : D) (L : Int) : Int := sumF (fun k => sizeAt c (idx c L k)) (lS c L).length
def sPlaces : Sum := ⟨[configS, u64], fun _ => none, fun
  | [c, l] => .tup [.dat i64 (.I (plS c l.int)), .dat i64 (.I (chE c))]
  | _ => .und⟩
theorem size_le {c : D} (h : chE c = 0) {k : Nat} (hk : k < nC c) : 1 ≤ sizeAt c k ∧ sizeAt c k ≤ 64 := by
  have h4 := (ch_ok.1 h).2.1 k hk
  have h5 : clBad (clsAt c k) = false := by
    by_cases hb : clBad (clsAt c k) = true
    · rw [clE_2 hb] at h4; cases h4
    · simpa using hb
  simp only [clBad, out, Bool.or_eq_false_iff, ltB_false] at h5
  exact h5.1
theorem plS_range {c : D} {L : Int} {i : Nat} (hi : i ≤ (lS c L).length) : 0 ≤ sumF (fun k => sizeAt c (idx c L k)) i ∧ sumF (fun k => sizeAt c (idx c L k)) i ≤ 64 * i :=
  sumF_range (by omega) fun k hk => by
    have := lS_get (c := c) (L := L) (k := k) (by omega)
    have := size_le this.1 this.2.1
    omega
def cPl : Ctx := ⟨tab, refs, [(55, sSees), (56, sSees), (85, sBelow), (86, sBelow), (68, sOkR)], [], keep, mps⟩
theorem wrap_u16 {n : Int} (h1 : 0 ≤ n) (h2 : n ≤ 65535) : IntKind.u16.wrap n = n := by
  simp only [IntKind.wrap, IntKind.signed, IntKind.bits]; simp; omega
theorem places_fun : FunOK cPl 60 Try.f60 sPlaces := fun c hc l hl _ => by
  refine ⟨{ i : Nat // i ≤ (lS c l.int).length }, 1, fun i => ([(19, .dat i64 (.I i.1)), (18, .dat i64 (.I (lS c l.int).length)), (17, .dat (.slice i64) (.L (lS c l.int))), (8, .dat (.int .u16) (.I (sumF (fun k => sizeAt c (idx c l.int k)) i.1))), (7, .dat i64 (.I (chE c))), (2, .ptr 0 configS [] configS)], [(0, .box configS (.dat configS c))]), fun i => (lS c l.int).length - i.1,
    ⟨0, by omega⟩, ⟨[], rfl, ⟨rfl, rfl, rfl, rfl, rfl, rfl, trivial⟩, ⟨rfl, trivial⟩⟩, ?_⟩
  intro x
  obtain ⟨i, hi⟩ := x
  have h8 := lS_len (c := c) (L := l.int)
  have hs := plS_range (c := c) (L := l.int) hi
  have hlt : ltB (i : Int) ((lS c l.int).length : Int) = true → i < (lS c l.int).length := ltN
  have hge : ltB (i : Int) ((lS c l.int).length : Int) = false → i = (lS c l.int).length := geN hi
  refine ⟨fun h1 => ⟨ix (hlt h1), ?_, ⟨i + 1, hlt h1⟩, ⟨[], rfl, ⟨slot (i64_1 (n := i) (by omega)), rfl, rfl, slot ?_, rfl, rfl, trivial⟩, ⟨rfl, trivial⟩⟩, ?_⟩, fun h1 => ⟨Bears.int ?_, Bears.int rfl, trivial⟩⟩
  · obtain ⟨_, h2, _, h3⟩ := lS_get (hlt h1)
    show 0 ≤ ((lS c l.int).getD i .Z).int ∧ ((lS c l.int).getD i .Z).int < (nC c : Int)
    omega
  · obtain ⟨h0, h2, _, h3⟩ := lS_get (hlt h1)
    have := size_le h0 h2
    show IntKind.u16.wrap (sumF (fun k => sizeAt c (idx c l.int k)) i + IntKind.u16.wrap (sizeAt c (idx c l.int i))) = sumF (fun k => sizeAt c (idx c l.int k)) i + sizeAt c (idx c l.int i)
    rw [wrap_u16 (n := sizeAt c (idx c l.int i)) (by omega) (by omega), wrap_u16 (by omega) (by omega)]
  · have := hlt h1
    show (lS c l.int).length - (i + 1) < (lS c l.int).length - i
    omega
  · show IntKind.i64.wrap (sumF (fun k => sizeAt c (idx c l.int k)) i) = plS c l.int
    rw [wrap_i64 (by omega) (by omega), plS, hge h1]
theorem placesR_fun : FunOK cPl 60 Try.f61 sPlaces := fun c hc l hl _ => by
  refine ⟨{ i : Nat // i ≤ (lS c l.int).length }, 1, fun i => ([(9, .dat i64 (.I i.1)), (8, .dat i64 (.I (sumF (fun k => sizeAt c (idx c l.int k)) i.1))), (7, .dat i64 (.I (chE c))), (6, .dat (.slice i64) (.L (lS c l.int))), (2, .ptr 0 configS [] configS)], [(0, .box configS (.dat configS c))]), fun i => (lS c l.int).length - i.1,
    ⟨0, by omega⟩, ⟨[], rfl, ⟨rfl, rfl, rfl, rfl, rfl, trivial⟩, ⟨rfl, trivial⟩⟩, ?_⟩
  intro x
  obtain ⟨i, hi⟩ := x
  have h8 := lS_len (c := c) (L := l.int)
  have hs := plS_range (c := c) (L := l.int) hi
  have hlt : ltB (i : Int) ((lS c l.int).length : Int) = true → i < (lS c l.int).length := ltN
  have hge : ltB (i : Int) ((lS c l.int).length : Int) = false → i = (lS c l.int).length := geN hi
  refine ⟨fun h1 => ⟨ix (hlt h1), ?_, by kernel_rfl, ⟨i + 1, hlt h1⟩, ⟨[], rfl, ⟨slot (i64_1 (n := i) (by omega)), slot ?_, rfl, rfl, rfl, trivial⟩, ⟨rfl, trivial⟩⟩, ?_⟩, fun h1 => ⟨Bears.int ?_, Bears.int rfl, trivial⟩⟩
  · obtain ⟨_, h2, _, h3⟩ := lS_get (hlt h1)
    show 0 ≤ ((lS c l.int).getD i .Z).int ∧ ((lS c l.int).getD i .Z).int < (nC c : Int)
    omega
  · obtain ⟨h0, h2, _, h3⟩ := lS_get (hlt h1)
    have := size_le h0 h2
    show IntKind.i64.wrap (sumF (fun k => sizeAt c (idx c l.int k)) i + sizeAt c (idx c l.int i)) = sumF (fun k => sizeAt c (idx c l.int k)) i + sizeAt c (idx c l.int i)
    rw [wrap_i64 (by omega) (by omega)]
  · have := hlt h1
    show (lS c l.int).length - (i + 1) < (lS c l.int).length - i
    omega
  · show sumF (fun k => sizeAt c (idx c l.int k)) i = plS c l.int
    rw [plS, hge h1]
def seeR (c : D) (L : Int) (i : Nat) : Bool := belowB ((rlsAt c i).nth 1).int L
def belC (c : D) (L : Int) : D := if chE c ≠ 0 then D0 configS else .L [.L (sel (seeB c L) (clsAt c) (nC c)), c.nth 1, .L (sel (seeR c L) (rlsAt c) (nR c)), c.nth 3]
def sBelC : Sum := ⟨[configS, u64], fun _ => none, fun
  | [c, l] => .tup [.dat configS (belC c l.int), .dat i64 (.I (chE c))]
  | _ => .und⟩
theorem belC_0 {c : D} {L : Int} (h : chE c = 0) : belC c L = .L [.L (sel (seeB c L) (clsAt c) (nC c)), c.nth 1, .L (sel (seeR c L) (rlsAt c) (nR c)), c.nth 3] := if_neg (by simp [h])
theorem lS_cls {c : D} {L : Int} (h : chE c = 0) (f : Nat → D) : tbl (fun k => f (idx c L k)) (lS c L).length = sel (seeB c L) f (nC c) := by
  have := tbl_map (lS c L) (fun d => f d.int.toNat)
  have e : lS c L = pick (seeB c L) (nC c) := if_neg (by simp [h])
  rw [show (fun k => f (idx c L k)) = fun k => f ((lS c L).getD k .Z).int.toNat from rfl, this, e, pick_map]
theorem belowC_fun : FunOK cPl 60 Try.f62 sBelC := fun c hc l hl _ => by
  simp only [InR, InRs] at hc
  have hn0 : nC c ≤ 9223372036854775807 := hc.1.1
  clear hc
  refine ⟨fun h1 => ⟨Bears.same (eqSame ?_), Bears.int rfl, trivial⟩, fun h1 => ?_⟩
  all_goals replace h1 : (chE c != 0) = _ := h1
  all_goals simp only [bne_iff_ne, ne_eq, bne_eq_false_iff_eq] at h1
  · show D0 configS = belC c l.int
    rw [belC, if_pos h1]
  have h8 := lS_len (c := c) (L := l.int)
  refine ⟨{ i : Nat // i ≤ (lS c l.int).length }, 5, fun i => ([(28, .dat i64 (.I i.1)), (27, .dat i64 (.I (lS c l.int).length)), (26, .dat (.slice i64) (.L (lS c l.int))), (8, .ptr 2 configS [] configS), (4, .ptr 1 configS [] configS), (2, .ptr 0 configS [] configS), (1, .dat u64 (.I l.int))],
    [(2, .box configS (.st fS [.own 3 classS, .dat (.arr 6 tenS) (c.nth 1), .own 4 ruleS, .dat u64 (c.nth 3)])), (3, .grow classS (tbl (fun k => clsAt c (idx c l.int k)) i.1)), (4, .grow ruleS []), (1, cfgO), (0, .box configS (.dat configS c))]), fun i => (lS c l.int).length - i.1,
    ⟨0, by omega⟩, ⟨[(3, 1000000), (4, 1000001)], rfl, ⟨rfl, rfl, rfl, rfl, rfl, rfl, rfl, trivial⟩, ⟨rfl, rfl, rfl, rfl, rfl, trivial⟩⟩, ?_⟩
  intro x
  obtain ⟨i, hi⟩ := x
  have hlt : ltB (i : Int) ((lS c l.int).length : Int) = true → i < (lS c l.int).length := ltN
  have hge : ltB (i : Int) ((lS c l.int).length : Int) = false → i = (lS c l.int).length := geN hi
  refine ⟨fun h1 => ⟨ix (hlt h1), ?_, ?_, by kernel_rfl, ⟨i + 1, hlt h1⟩, ⟨[(3, 21)], rfl, ⟨slot (i64_1 (n := i) (by omega)), rfl, rfl, rfl, rfl, rfl, rfl, trivial⟩, ⟨rfl, rfl, rfl, rfl, rfl, trivial⟩⟩, ?_⟩, fun h1 => ?_⟩
  · obtain ⟨_, h2, _, h3⟩ := lS_get (hlt h1)
    show 0 ≤ ((lS c l.int).getD i .Z).int ∧ ((lS c l.int).getD i .Z).int < (nC c : Int)
    omega
  · show (tbl (fun k => clsAt c (idx c l.int k)) i).length + 1 ≤ 1073741824
    rw [tbl_len]; omega
  · have := hlt h1
    show (lS c l.int).length - (i + 1) < (lS c l.int).length - i
    omega
  have e := hge h1
  subst e
  clear hlt hge h1
  have h9 := nR_le ‹chE c = 0›
  refine ⟨{ i : Nat // i ≤ nR c }, 6, fun i => ([(46, .dat i64 (.I i.1)), (45, .dat i64 (.I (nR c))), (44, .dat (.slice ruleS) (c.nth 2)), (8, .ptr 2 configS [] configS), (4, .ptr 1 configS [] configS), (2, .ptr 0 configS [] configS), (1, .dat u64 (.I l.int))],
    [(2, .box configS (.st fS [.own 3 classS, .dat (.arr 6 tenS) (c.nth 1), .own 5 ruleS, .dat u64 (c.nth 3)])), (3, .grow classS (tbl (fun k => clsAt c (idx c l.int k)) (lS c l.int).length)), (5, .grow ruleS (sel (seeR c l.int) (rlsAt c) i.1)), (1, cfgO), (0, .box configS (.dat configS c))]), fun i => nR c - i.1,
    ⟨0, by omega⟩, ⟨[(5, 4)], rfl, ⟨rfl, rfl, rfl, rfl, rfl, rfl, rfl, trivial⟩, ⟨rfl, rfl, rfl, rfl, rfl, trivial⟩⟩, ?_⟩
  intro x
  obtain ⟨i, hi⟩ := x
  have hlt : ltB (i : Int) ((nR c) : Int) = true → i < (nR c) := ltN
  have hge : ltB (i : Int) ((nR c) : Int) = false → i = (nR c) := geN hi
  refine ⟨fun h1 => ⟨ix (hlt h1), fun h2 => ⟨?_, ?_⟩, fun h2 => ?_⟩, fun h1 => ⟨Bears.same ?_, Bears.int ?_, trivial⟩⟩
  · have := sel_len (seeR c l.int) (rlsAt c) i
    show (sel (seeR c l.int) (rlsAt c) i).length + 1 ≤ 1073741824
    omega
  · replace h2 : seeR c l.int i = true := h2
    refine ⟨⟨i + 1, hlt h1⟩, ⟨[(5, 8)], rfl, ⟨slot (i64_1 (n := i) (by omega)), rfl, rfl, rfl, rfl, rfl, rfl, trivial⟩, ⟨rfl, rfl, gro ?_, rfl, rfl, trivial⟩⟩, by have := hlt h1; show nR c - (i + 1) < nR c - i; omega⟩
    show sel (seeR c l.int) (rlsAt c) i ++ [rlsAt c i] = sel (seeR c l.int) (rlsAt c) (i + 1)
    rw [sel, if_pos h2]
  · replace h2 : seeR c l.int i = false := h2
    refine ⟨⟨i + 1, hlt h1⟩, ⟨[], rfl, ⟨slot (i64_1 (n := i) (by omega)), rfl, rfl, rfl, rfl, rfl, rfl, trivial⟩, ⟨rfl, rfl, gro ?_, rfl, rfl, trivial⟩⟩, by have := hlt h1; show nR c - (i + 1) < nR c - i; omega⟩
    show sel (seeR c l.int) (rlsAt c) i = sel (seeR c l.int) (rlsAt c) (i + 1)
    rw [sel, if_neg (by simp [h2]), List.append_nil]
  · have e := hge h1
    subst e
    refine eqSame ?_
    show D.L [D.L (tbl (fun k => clsAt c (idx c l.int k)) (lS c l.int).length), c.nth 1, D.L (sel (seeR c l.int) (rlsAt c) (nR c)), c.nth 3] = belC c l.int
    rw [belC_0 ‹chE c = 0›, lS_cls ‹chE c = 0›]
  · exact ‹chE c = 0›.symm
theorem belowCR_fun : FunOK cPl 60 Try.f63 sBelC := fun c hc l hl _ => by
  simp only [InR, InRs] at hc
  have hn0 : nC c ≤ 9223372036854775807 := hc.1.1
  clear hc
  refine ⟨fun h1 => ⟨Bears.same (eqSame ?_), Bears.int rfl, trivial⟩, fun h1 => ?_⟩
  all_goals replace h1 : (chE c != 0) = _ := h1
  all_goals simp only [bne_iff_ne, ne_eq, bne_eq_false_iff_eq] at h1
  · show D0 configS = belC c l.int
    rw [belC, if_pos h1]
  have h8 := nC_le h1
  have h9 := nR_le h1
  refine ⟨{ i : Nat // i ≤ nC c }, 5, fun i => ([(8, .dat i64 (.I i.1)), (7, .ptr 2 configS [] configS), (4, .ptr 1 configS [] configS), (2, .ptr 0 configS [] configS), (1, .dat u64 (.I l.int))],
    [(2, .box configS (.st fS [.own 3 classS, .dat (.arr 6 tenS) (c.nth 1), .own 4 ruleS, .dat u64 (.I (c.nth 3).int)])), (3, .grow classS (sel (seeB c l.int) (clsAt c) i.1)), (4, .grow ruleS []), (1, cfgO), (0, .box configS (.dat configS c))]), fun i => nC c - i.1,
    ⟨0, by omega⟩, ⟨[(3, 1000000), (4, 1000001)], rfl, ⟨rfl, rfl, rfl, rfl, rfl, trivial⟩, ⟨rfl, rfl, rfl, rfl, rfl, trivial⟩⟩, ?_⟩
  intro x
  obtain ⟨i, hi⟩ := x
  have hlt : ltB (i : Int) ((nC c) : Int) = true → i < (nC c) := ltN
  have hge : ltB (i : Int) ((nC c) : Int) = false → i = (nC c) := geN hi
  refine ⟨fun h1 => ⟨ix (hlt h1), fun h2 => ⟨ix (hlt h1), ?_, by kernel_rfl, ?_⟩, fun h2 => ?_⟩, fun h1 => ?_⟩
  · have := sel_len (seeB c l.int) (clsAt c) i
    show (sel (seeB c l.int) (clsAt c) i).length + 1 ≤ 1073741824
    omega
  · replace h2 : seeB c l.int i = true := h2
    refine ⟨⟨i + 1, hlt h1⟩, ⟨[(3, 21)], rfl, ⟨slot (i64_1 (n := i) (by omega)), rfl, rfl, rfl, rfl, trivial⟩, ⟨rfl, gro ?_, rfl, rfl, rfl, trivial⟩⟩, by have := hlt h1; show nC c - (i + 1) < nC c - i; omega⟩
    show sel (seeB c l.int) (clsAt c) i ++ [clsAt c i] = sel (seeB c l.int) (clsAt c) (i + 1)
    rw [sel, if_pos h2]
  · replace h2 : seeB c l.int i = false := h2
    refine ⟨⟨i + 1, hlt h1⟩, ⟨[], rfl, ⟨slot (i64_1 (n := i) (by omega)), rfl, rfl, rfl, rfl, trivial⟩, ⟨rfl, gro ?_, rfl, rfl, rfl, trivial⟩⟩, by have := hlt h1; show nC c - (i + 1) < nC c - i; omega⟩
    show sel (seeB c l.int) (clsAt c) i = sel (seeB c l.int) (clsAt c) (i + 1)
    rw [sel, if_neg (by simp [h2]), List.append_nil]
  have e := hge h1
  subst e
  clear hlt hge h1
  refine ⟨{ i : Nat // i ≤ nR c }, 6, fun i => ([(9, .dat i64 (.I i.1)), (7, .ptr 2 configS [] configS), (4, .ptr 1 configS [] configS), (2, .ptr 0 configS [] configS), (1, .dat u64 (.I l.int))],
    [(2, .box configS (.st fS [.own 3 classS, .dat (.arr 6 tenS) (c.nth 1), .own 5 ruleS, .dat u64 (.I (c.nth 3).int)])), (3, .grow classS (sel (seeB c l.int) (clsAt c) (nC c))), (5, .grow ruleS (sel (seeR c l.int) (rlsAt c) i.1)), (1, cfgO), (0, .box configS (.dat configS c))]), fun i => nR c - i.1,
    ⟨0, by omega⟩, ⟨[(5, 4)], rfl, ⟨rfl, rfl, rfl, rfl, rfl, trivial⟩, ⟨rfl, rfl, rfl, rfl, rfl, trivial⟩⟩, ?_⟩
  intro x
  obtain ⟨i, hi⟩ := x
  have hlt : ltB (i : Int) ((nR c) : Int) = true → i < (nR c) := ltN
  have hge : ltB (i : Int) ((nR c) : Int) = false → i = (nR c) := geN hi
  refine ⟨fun h1 => ⟨ix (hlt h1), fun h2 => ⟨ix (hlt h1), ?_, by kernel_rfl, ?_⟩, fun h2 => ?_⟩, fun h1 => ⟨Bears.same ?_, Bears.int ?_, trivial⟩⟩
  · have := sel_len (seeR c l.int) (rlsAt c) i
    show (sel (seeR c l.int) (rlsAt c) i).length + 1 ≤ 1073741824
    omega
  · replace h2 : seeR c l.int i = true := h2
    refine ⟨⟨i + 1, hlt h1⟩, ⟨[(5, 22)], rfl, ⟨slot (i64_1 (n := i) (by omega)), rfl, rfl, rfl, rfl, trivial⟩, ⟨rfl, rfl, gro ?_, rfl, rfl, trivial⟩⟩, by have := hlt h1; show nR c - (i + 1) < nR c - i; omega⟩
    show sel (seeR c l.int) (rlsAt c) i ++ [rlsAt c i] = sel (seeR c l.int) (rlsAt c) (i + 1)
    rw [sel, if_pos h2]
  · replace h2 : seeR c l.int i = false := h2
    refine ⟨⟨i + 1, hlt h1⟩, ⟨[], rfl, ⟨slot (i64_1 (n := i) (by omega)), rfl, rfl, rfl, rfl, trivial⟩, ⟨rfl, rfl, gro ?_, rfl, rfl, trivial⟩⟩, by have := hlt h1; show nR c - (i + 1) < nR c - i; omega⟩
    show sel (seeR c l.int) (rlsAt c) i = sel (seeR c l.int) (rlsAt c) (i + 1)
    rw [sel, if_neg (by simp [h2]), List.append_nil]
  · have e := hge h1
    subst e
    show Same configS (D.L [D.L (sel (seeB c l.int) (clsAt c) (nC c)), c.nth 1, D.L (sel (seeR c l.int) (rlsAt c) (nR c)), .I (c.nth 3).int]) (belC c l.int)
    rw [belC_0 ‹chE c = 0›]
    simp [Same, Sames]
  · exact ‹chE c = 0›.symm
end Go.Proofs.Ytjcfnooplhoheaa
