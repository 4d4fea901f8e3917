/- Accounts of families of labels: the reference's closures, laws of closures. -/
import Derived.Test.YtohgdncglegjmaaWZg
import Derived.Test.YtohgdncglegjmaaWLg
namespace Go.Proofs.Ytohgdncglegjmaa
open Go Go.Vm
set_option linter.unusedSimpArgs false
set_option linter.unusedVariables false
set_option maxRecDepth 10000
theorem bearsS {k : IntKind} {xs ys : List D} (h : ints xs = ints ys) : Bears (.slice (.int k)) (.L xs) (.L ys) := by
  refine Bears.same ?_
  have hl : xs.length = ys.length := by rw [← ints_len xs, ← ints_len ys, h]
  simp only [Same, D.list_L]
  refine ⟨hl, fun j hj => ?_⟩
  rw [getD_int xs j hj, getD_int ys j (by omega)]
  simp only [h]
theorem bearsSD {k : IntKind} {l : D} {ys : List D} (h : ints l.list = ints ys) : Bears (.slice (.int k)) l (.L ys) := fun g vs hr => bearsS h g vs (by simpa only [Rel, D.list_L] using hr)
theorem noII {a e : Int} (h : (a != a || e != e) = true) : False := by simp at h
def sPut : Sum := ⟨[.slice u64, u64], fun
  | [l, _] => some (Str (ints l.list) ∧ l.list.length ≤ 100000)
  | _ => some False, fun
  | [l, x] => .dat (.slice u64) (.L (nums (putI x.int (ints l.list))))
  | _ => .und⟩
theorem put_val {l : List D} {i : Nat} {x : Int} (hi : i ≤ l.length) : ints (([] ++ (l.drop 0).take ((i : Int) - 0).toNat) ++ ([D0 u64].set 0 (.I x)) ++ (l.drop (i : Int).toNat).take ((l.length : Int) - (i : Int)).toNat) = (ints l).take i ++ x :: (ints l).drop i := by
  have e1 : ((i : Int) - 0).toNat = i := by omega
  have e2 : ((l.length : Int) - (i : Int)).toNat = l.length - i := by omega
  rw [e1, e2, Int.toNat_natCast]
  have e3 : (l.drop i).take (l.length - i) = l.drop i := List.take_of_length_le (by rw [List.length_drop]; omega)
  rw [e3]
  simp [ints]
theorem put_len {l : List D} {a b : Nat} : ((l.drop b).take a).length ≤ l.length := by
  rw [List.length_take, List.length_drop]; omega
theorem put_fun : FunOK cL0 60 Try.f43 sPut := fun l hl x hx h => by
  replace h : Str (ints l.list) ∧ l.list.length ≤ 100000 := h
  obtain ⟨hs, hlen⟩ := h
  refine ⟨{ i : Nat // i ≤ l.list.length ∧ ∀ k, k < i → (l.list.getD k .Z).int < x.int }, 1, fun i => ([(5, .dat i64 (.I i.1)), (0, .dat (.slice u64) l), (1, .dat u64 (.I x.int))], []), fun i => l.list.length - i.1,
    ⟨0, Nat.zero_le _, fun k hk => by omega⟩, ⟨[], rfl, ⟨rfl, rfl, rfl, trivial⟩, trivial⟩, ?_⟩
  intro z
  obtain ⟨i, hi, h0⟩ := z
  have hlen3 := put_len (l := l.list) (a := ((i : Int) - 0).toNat) (b := 0)
  have hlen4 := put_len (l := l.list) (a := ((l.list.length : Int) - (i : Int)).toNat) (b := (i : Int).toNat)
  refine ⟨fun h1 => ix (ltN (keyOne h1)), fun h1 => ?_, fun h1 => ⟨fun h2 => ix (ltN (keyOne h2)), fun h2 => ?_, fun h2 => ⟨?_, ?_, ?_, ?_, ?_, ?_⟩⟩⟩
  · replace h1 : (ltB (i : Int) (l.list.length : Int) && ltB (l.list.getD i .Z).int x.int) = true := h1
    simp only [Bool.and_eq_true, ltB_true] at h1
    have hlt : i < l.list.length := by omega
    refine ⟨⟨i + 1, hlt, fun k hk => ?_⟩, ⟨[], rfl, ⟨slot (i64_1 (n := i) (by omega)), rfl, rfl, trivial⟩, trivial⟩, stepLt hlt⟩
    rcases Nat.lt_or_eq_of_le (Nat.le_of_lt_succ hk) with e | e
    · exact h0 k e
    · subst e; exact h1.2
  · replace h2 : (ltB (i : Int) (l.list.length : Int) && (l.list.getD i .Z).int == x.int) = true := h2
    simp only [Bool.and_eq_true, ltB_true, beq_iff_eq] at h2
    have hlt : i < l.list.length := by omega
    have hm : x.int ∈ ints l.list := by
      rw [← h2.2, getD_int l.list i hlt]
      exact List.getElem_mem _
    exact bearsSD (by rw [ints_nums, putI_mem hs hm])
  · show 0 ≤ (0 : Int) ∧ (0 : Int) ≤ (i : Int) ∧ (i : Int) ≤ (l.list.length : Int)
    omega
  · show 0 + ((l.list.drop 0).take ((i : Int) - 0).toNat).length ≤ 1073741824
    omega
  · show (([] : List D) ++ (l.list.drop 0).take ((i : Int) - 0).toNat).length + 1 ≤ 1073741824
    rw [List.nil_append]; omega
  · show 0 ≤ (i : Int) ∧ (i : Int) ≤ (l.list.length : Int) ∧ (l.list.length : Int) ≤ (l.list.length : Int)
    omega
  · show ((([] : List D) ++ (l.list.drop 0).take ((i : Int) - 0).toNat) ++ ([D0 u64].set 0 (.I x.int))).length + ((l.list.drop (i : Int).toNat).take ((l.list.length : Int) - (i : Int)).toNat).length ≤ 1073741824
    rw [List.nil_append, List.length_append, List.length_set, List.length_singleton]; omega
  · have gi : ∀ k, k < l.list.length → (ints l.list).getD k 0 = (l.list.getD k .Z).int := fun k hk => by
      rw [getD_int l.list k hk, List.getD_eq_getElem?_getD, List.getElem?_eq_getElem (by rw [ints_len]; exact hk)]; rfl
    have hC : i < (ints l.list).length → x.int < (ints l.list).getD i 0 := fun hlt => by
      rw [ints_len] at hlt
      rw [gi i hlt]
      replace h1 : (ltB (i : Int) (l.list.length : Int) && ltB (l.list.getD i .Z).int x.int) = false := h1
      replace h2 : (ltB (i : Int) (l.list.length : Int) && (l.list.getD i .Z).int == x.int) = false := h2
      have hd : ltB (i : Int) (l.list.length : Int) = true := by rw [ltB_true]; omega
      rw [hd, Bool.true_and] at h1 h2
      rw [ltB_false] at h1
      have h2 : (l.list.getD i .Z).int ≠ x.int := by simpa using h2
      omega
    have e := putI_at (x := x.int) (l := ints l.list) (a := i) (by rw [ints_len]; exact hi) (fun k hk => by rw [gi k (by omega)]; exact h0 k hk) hC
    exact bearsS ((put_val hi).trans (by rw [ints_nums, e]; rfl))
def cCR : Ctx := ⟨tabL, refsL, [(38, sFam), (43, sPut)], [], keep, mpsL⟩
theorem goC_take {R S : List Int} {x : Int} {k : Nat} (h : k < R.length) : goC (R.take (k + 1)) x S = putI (orI (R.getD k 0) x) (goC (R.take k) x S) := by
  have e : R.take (k + 1) = R.take k ++ [R.getD k 0] := by
    rw [List.take_add_one, List.getD_eq_getElem?_getD, List.getElem?_eq_getElem h]; rfl
  rw [goC, e, List.foldl_append]; rfl
theorem nums_getD (R : List Int) (k : Nat) : ((nums R).getD k .Z).int = R.getD k 0 := by
  rw [nums, List.getD_eq_getElem?_getD, List.getD_eq_getElem?_getD, List.getElem?_map]
  cases R[k]? <;> rfl
theorem nums_len (R : List Int) : (nums R).length = R.length := by simp [nums]
set_option maxHeartbeats 4000000 in
theorem cloRef_fun : FunOK cCR 60 Try.f20 sClo := fun l hl _ => by
  simp only [InR] at hl
  refine ⟨fun h1 => ?_, fun h1 => ?_⟩
  · replace h1 : famE l.list.length ≠ 0 := bneT h1
    have e := cloE_fam (l := l.list) h1
    exact ⟨Bears.same (eqSame (by rw [cloL_1 (by rw [e]; exact h1)])), Bears.int e.symm, trivial⟩
  have h0 : famE l.list.length = 0 := bneF h1
  have h64 := fam64 h0
  refine ⟨Unit ⊕ { x : Nat × List Int // x.1 ≤ l.list.length ∧ x.2 = cloR (l.list.take x.1) ∧ x.2.length ≤ 256 }, 2,
    fun x => match x with
      | .inl _ => ([(6, .dat i64 (.I 0)), (5, .own 1 u64), (0, .dat (.slice u64) l)], [(1, .grow u64 [])])
      | .inr x => ([(6, .dat i64 (.I x.1.1)), (5, .dat (.slice u64) (.L (nums x.1.2))), (0, .dat (.slice u64) l)], []),
    fun x => match x with
      | .inl _ => l.list.length + 1
      | .inr x => l.list.length - x.1.1,
    .inl (), ⟨[], rfl, ⟨rfl, rfl, rfl, trivial⟩, ⟨rfl, trivial⟩⟩, ?_⟩
  intro x
  have wS : ∀ n : Nat, n ≤ 1000 → IntKind.i64.wrap ((n : Int) + 1) = ((n + 1 : Nat) : Int) := fun n h => i64_1 (n := n) (by omega)
  rcases x with x | x
  · refine ⟨fun h2 => ⟨ix (ltN (i := 0) h2), ⟨List.Pairwise.nil, Nat.zero_le _⟩, ?_⟩, fun h2 => ?_⟩
    · have hlt : 0 < l.list.length := ltN (i := 0) h2
      refine ⟨Unit, 2, fun _ => ([(8, .dat i64 (.I 0)), (5, .dat (.slice u64) (.L (nums (putI (l.list.getD 0 .Z).int [])))), (7, .own 1 u64), (6, .dat i64 (.I 0)), (0, .dat (.slice u64) l)], [(1, .froz u64 [])]), fun _ => 0, (), ⟨[], rfl, ⟨rfl, rfl, rfl, rfl, rfl, trivial⟩, ⟨rfl, trivial⟩⟩, ?_⟩
      intro _
      refine ⟨fun h3 => ?_, fun h3 => ⟨fun h4 => ?_, fun h4 => ?_⟩⟩
      · exact absurd (ltN (i := 0) (n := 0) h3) (Nat.lt_irrefl 0)
      · exact absurd (ltN (i := 256) (n := 1) h4) (by decide)
      · have hc := cloR_take l.list hlt
        refine ⟨.inr ⟨(1, putI (l.list.getD 0 .Z).int []), hlt, ?_, by show 1 ≤ 256; decide⟩, ⟨[], rfl, ⟨slot (wS 0 (by decide)), rfl, rfl, trivial⟩, trivial⟩, by show l.list.length - 1 < l.list.length + 1; omega⟩
        rw [hc]; rfl
    · have e : l.list.length = 0 := (geN (i := 0) (Nat.zero_le _) h2).symm
      have e1 : l.list = [] := List.eq_nil_of_length_eq_zero e
      have e2 : cloE l.list = 0 := cloE_ok h0 (by rw [e1]; decide)
      exact ⟨Bears.same (eqSame (by rw [cloL_0 e2, e1]; rfl)), Bears.int e2.symm, trivial⟩
  obtain ⟨⟨i, R⟩, hi, hR, h256⟩ := x
  simp only at hi hR h256
  have hst : Str R := by rw [hR]; exact cloR_str _
  refine ⟨fun h2 => ⟨ix (ltN h2), ⟨by show Str (ints (nums R)); rw [ints_nums]; exact hst, by show (nums R).length ≤ 100000; rw [nums_len]; omega⟩, ?_⟩, fun h2 => ?_⟩
  · have hlt : i < l.list.length := ltN h2
    obtain ⟨x, hx⟩ : ∃ x, x = (l.list.getD i .Z).int := ⟨_, rfl⟩
    have hsx : Str (putI x R) := putI_str hst
    refine ⟨{ k : Nat // k ≤ R.length }, 2, fun k => ([(8, .dat i64 (.I k.1)), (5, .dat (.slice u64) (.L (nums (goC (R.take k.1) x (putI x R))))), (7, .dat (.slice u64) (.L (nums R))), (6, .dat i64 (.I i)), (0, .dat (.slice u64) l)], []), fun k => R.length - k.1,
      ⟨0, Nat.zero_le _⟩, ⟨[], rfl, ⟨rfl, slotD ?_, rfl, rfl, rfl, trivial⟩, trivial⟩, ?_⟩
    · show D.L (nums (putI (l.list.getD i .Z).int (ints (nums R)))) = D.L (nums (putI x R))
      rw [ints_nums, hx]
    intro k
    obtain ⟨k, hk⟩ := k
    have hgl := goC_len (R := R.take k) (x := x) (S := putI x R)
    have hpl := putI_len (x := x) (l := R)
    have hk2 : (R.take k).length ≤ R.length := by rw [List.length_take]; omega
    have hgs : Str (goC (R.take k) x (putI x R)) := goC_str hsx
    refine ⟨fun h3 => ⟨?_, ix hlt, ⟨by show Str (ints (nums (goC (R.take k) x (putI x R)))); rw [ints_nums]; exact hgs, by show (nums (goC (R.take k) x (putI x R))).length ≤ 100000; rw [nums_len]; omega⟩, by kernel_rfl, ?_⟩, fun h3 => ?_⟩
    · have h3 : k < (nums R).length := ltN h3
      exact ix h3
    · have h3 : k < (nums R).length := ltN h3
      rw [nums_len] at h3
      refine ⟨⟨k + 1, h3⟩, ⟨[], rfl, ⟨slot (wS k (by omega)), slotD ?_, rfl, rfl, rfl, trivial⟩, trivial⟩, stepLt h3⟩
      show D.L (nums (putI (orI ((nums R).getD k .Z).int (l.list.getD i .Z).int) (ints (nums (goC (R.take k) x (putI x R)))))) = D.L (nums (goC (R.take (k + 1)) x (putI x R)))
      rw [ints_nums, nums_getD, goC_take h3, hx]
    · have h3 : k = (nums R).length := geN (by rw [nums_len]; exact hk) h3
      rw [nums_len] at h3
      subst h3
      have hc : goC (R.take R.length) x (putI x R) = cloR (l.list.take (i + 1)) := by
        rw [cloR_take _ hlt, ← hR, List.take_length, hx]; rfl
      refine ⟨fun h4 => ?_, fun h4 => ?_⟩
      · replace h4 : ltB 256 ((nums (goC (R.take R.length) x (putI x R))).length : Int) = true := h4
        rw [nums_len, hc, ltB_true] at h4
        have e : cloE l.list = 6 := cloE_big h0 (i := i + 1) (by omega)
        exact ⟨Bears.same (eqSame (by rw [cloL_1 (by rw [e]; decide)])), Bears.int e.symm, trivial⟩
      · replace h4 : ltB 256 ((nums (goC (R.take R.length) x (putI x R))).length : Int) = false := h4
        rw [nums_len, hc, ltB_false] at h4
        exact ⟨.inr ⟨(i + 1, goC (R.take R.length) x (putI x R)), hlt, hc, by show (goC (R.take R.length) x (putI x R)).length ≤ 256; rw [hc]; omega⟩, ⟨[], rfl, ⟨slot (wS i (by omega)), rfl, rfl, trivial⟩, trivial⟩, stepLt hlt⟩
  · have e := geN hi h2
    subst e
    have hR' : R = cloR l.list := by rw [hR, List.take_length]
    have e : cloE l.list = 0 := cloE_ok h0 (by rw [hR'] at h256; exact h256)
    exact ⟨Bears.same (eqSame (by rw [cloL_0 e, ← hR'])), Bears.int e.symm, trivial⟩
def cCd : Ctx := ⟨tabL, refsL, [(10, sClo), (11, sHasU), (12, sSameI u64), (9, sTrue)], [], keep, mpsL⟩
def sClosed : Sum := ⟨[.slice u64], fun _ => none, fun _ => .dat .bool (.B true)⟩
def U64 (a : Int) : Prop := 0 ≤ a ∧ a ≤ 18446744073709551615
theorem bv_toNat {a : Int} (h : U64 a) : ((bv a).toNat : Int) = a := by
  obtain ⟨h1, h2⟩ := h
  show ((BitVec.ofInt 64 a).toNat : Int) = a
  rw [BitVec.toNat_ofInt]
  omega
theorem bv_inj {a b : Int} (ha : U64 a) (hb : U64 b) (h : bv a = bv b) : a = b := by rw [← bv_toNat ha, ← bv_toNat hb, h]
theorem orI_U (a b : Int) : U64 (orI a b) := by
  have h := (BitVec.ofInt 64 a ||| BitVec.ofInt 64 b).isLt
  show 0 ≤ IntKind.u64.wrap ((BitVec.ofInt 64 a ||| BitVec.ofInt 64 b).toNat : Int) ∧ IntKind.u64.wrap ((BitVec.ofInt 64 a ||| BitVec.ofInt 64 b).toNat : Int) ≤ 18446744073709551615
  rw [wrap_u64 (by omega) (by omega)]
  omega
theorem orI_bv (a b : Int) : bv (orI a b) = bv a ||| bv b := bv_or a b
theorem orI_self {a : Int} (h : U64 a) : orI a a = a := bv_inj (orI_U a a) h (by rw [orI_bv, BitVec.or_self])
theorem orI_assoc (a b c : Int) : orI (orI a b) c = orI a (orI b c) := bv_inj (orI_U _ _) (orI_U _ _) (by rw [orI_bv, orI_bv, orI_bv, orI_bv, BitVec.or_assoc])
structure ClosedI (R : List Int) : Prop where
  u : ∀ a, a ∈ R → U64 a
  c : ∀ a b, a ∈ R → b ∈ R → orI a b ∈ R
theorem step_closed {R : List Int} {x : Int} (h : ClosedI R) (hx : U64 x) : ClosedI (stepC R x) where
  u := fun a ha => by
    rcases mem_stepC.1 ha with e | e | ⟨y, hy, e⟩
    · subst e; exact hx
    · exact h.u a e
    · subst e; exact orI_U _ _
  c := fun a b ha hb => by
    have hyx : ∀ y, y ∈ R → orI (orI y x) x = orI y x := fun y hy => by rw [orI_assoc, orI_self hx]
    rw [mem_stepC]
    rcases mem_stepC.1 ha with ea | ea | ⟨y, hy, ea⟩ <;> rcases mem_stepC.1 hb with eb | eb | ⟨z, hz, eb⟩
    · subst ea; subst eb; exact .inl (orI_self hx)
    · subst ea; exact .inr (.inr ⟨b, eb, orI_comm _ _⟩)
    · subst ea; subst eb; exact .inr (.inr ⟨z, hz, by rw [orI_comm, hyx z hz]⟩)
    · subst eb; exact .inr (.inr ⟨a, ea, rfl⟩)
    · exact .inr (.inl (h.c a b ea eb))
    · subst eb; exact .inr (.inr ⟨orI a z, h.c a z ea hz, by rw [orI_assoc]⟩)
    · subst ea; subst eb; exact .inr (.inr ⟨y, hy, hyx y hy⟩)
    · subst ea; exact .inr (.inr ⟨orI y b, h.c y b hy eb, by rw [orI_assoc, orI_comm x b, orI_assoc]⟩)
    · subst ea; subst eb
      refine .inr (.inr ⟨orI y z, h.c y z hy hz, ?_⟩)
      rw [orI_assoc, orI_comm x (orI z x), hyx z hz, orI_assoc]
theorem foldC_closed : ∀ (l : List D) {R : List Int}, ClosedI R → (∀ d, d ∈ l → U64 d.int) → ClosedI (l.foldl (fun R d => stepC R d.int) R)
  | [], _, h, _ => h
  | d :: l, _, h, hu => foldC_closed l (step_closed h (hu d (by simp))) fun e he => hu e (by simp [he])
theorem cloR_closed {l : List D} (h : ∀ d, d ∈ l → U64 d.int) : ClosedI (cloR l) := foldC_closed l ⟨fun a h => (by cases h), fun a b h => (by cases h)⟩ h
theorem foldC_mono : ∀ (l : List D) {R : List Int} {z : Int}, z ∈ R → z ∈ l.foldl (fun R d => stepC R d.int) R
  | [], _, _, h => h
  | d :: l, _, _, h => foldC_mono l (mem_stepC.2 (.inr (.inl h)))
theorem foldC_has : ∀ (l : List D) {R : List Int} {d : D}, d ∈ l → d.int ∈ l.foldl (fun R d => stepC R d.int) R
  | e :: l, R, d, h => by
    rcases List.mem_cons.1 h with h | h
    · subst h; exact foldC_mono l (mem_stepC.2 (.inl rfl))
    · exact foldC_has l h
theorem foldC_sub {S : List Int} (hS : ClosedI S) : ∀ (l : List D) {R : List Int}, (∀ z, z ∈ R → z ∈ S) → (∀ d, d ∈ l → d.int ∈ S) → ∀ z, z ∈ l.foldl (fun R d => stepC R d.int) R → z ∈ S
  | [], _, h, _, z, hz => h z hz
  | d :: l, R, h, hl, z, hz => foldC_sub hS l (R := stepC R d.int) (fun y hy => by
      rcases mem_stepC.1 hy with e | e | ⟨w, hw, e⟩
      · subst e; exact hl d (by simp)
      · exact h y e
      · subst e; exact hS.c _ _ (h w hw) (hl d (by simp))) (fun e he => hl e (by simp [he])) z hz
theorem clo_again {l : List D} (h : ∀ d, d ∈ l → U64 d.int) : cloR (nums (cloR l)) = cloR l := by
  refine str_eq (cloR_str _) (cloR_str _) fun z => ⟨fun hz => ?_, fun hz => ?_⟩
  · refine foldC_sub (cloR_closed h) _ (R := []) (fun z hz => by cases hz) (fun d hd => ?_) z hz
    obtain ⟨a, ha, rfl⟩ := List.mem_map.1 hd
    exact ha
  · exact foldC_has _ (d := .I z) (List.mem_map.2 ⟨z, hz, rfl⟩)
theorem foldC_bound : ∀ (l : List D) {R : List Int}, (l.foldl (fun R d => stepC R d.int) R).length + 1 ≤ (R.length + 1) * 2 ^ l.length
  | [], R => by simp
  | d :: l, R => by
    have h1 := foldC_bound l (R := stepC R d.int)
    have h2 := (stepC_len (R := R) (x := d.int)).2
    rw [List.foldl_cons, List.length_cons, Nat.pow_succ]
    have h3 : ((stepC R d.int).length + 1) * 2 ^ l.length ≤ (2 * (R.length + 1)) * 2 ^ l.length := Nat.mul_le_mul_right _ (by omega)
    calc _ ≤ _ := h1
      _ ≤ _ := h3
      _ = _ := by rw [Nat.mul_comm 2 (R.length + 1), Nat.mul_assoc, Nat.mul_comm 2]
theorem clo_63 {l : List D} (h : l.length ≤ 6) : (cloR l).length ≤ 63 := by
  have h1 := foldC_bound l (R := [])
  have h2 : 2 ^ l.length ≤ 2 ^ 6 := Nat.pow_le_pow_right (by decide) h
  have h3 : (cloR l).length + 1 ≤ (0 + 1) * 2 ^ l.length := h1
  omega
theorem hasI_nums {R : List Int} {z : Int} (h : z ∈ R) : hasI (nums R) z = true := by
  rw [hasI, List.any_eq_true]
  exact ⟨.I z, List.mem_map.2 ⟨z, h, rfl⟩, by simp⟩
set_option maxHeartbeats 4000000 in
theorem closed_fun : FunOK cCd 60 Try.f3 sClosed := fun l hl _ => by
  simp only [InR] at hl
  have hu : ∀ d, d ∈ l.list → U64 d.int := fun d hd => by
    obtain ⟨j, hj, rfl⟩ := mem_getD hd
    exact hl.2 j hj
  refine ⟨fun h1 => Bears.bool rfl, fun h1 => ?_⟩
  replace h1 : ltB 6 (l.list.length : Int) = false := h1
  rw [ltB_false] at h1
  have f0 : famE l.list.length = 0 := by rw [famE, if_neg (by omega)]
  obtain ⟨R, hR⟩ : ∃ R, R = cloR l.list := ⟨_, rfl⟩
  have h63 : R.length ≤ 63 := by rw [hR]; exact clo_63 (by omega)
  have e0 : cloE l.list = 0 := cloE_ok f0 (by rw [← hR]; omega)
  have eL : cloL l.list = nums R := by rw [cloL_0 e0, hR]
  have hst : Str R := by rw [hR]; exact cloR_str _
  have hcl : ClosedI R := by rw [hR]; exact cloR_closed hu
  have hnl : (nums R).length = R.length := nums_len R
  have mem : ∀ k, k < R.length → R.getD k 0 ∈ R := fun k hk => by
    rw [List.getD_eq_getElem?_getD, List.getElem?_eq_getElem hk]; exact List.getElem_mem _
  refine ⟨fun h2 => ?_, fun h2 => ?_⟩
  · replace h2 : (cloE l.list != 0 || ltB 63 ((cloL l.list).length : Int)) = true := h2
    rw [e0, eL, hnl] at h2
    simp only [bne_self_eq_false, Bool.false_or, ltB_true] at h2
    omega
  clear h2
  refine ⟨{ i : Nat // i ≤ R.length }, 0, fun i => ([(5, .dat i64 (.I i.1)), (3, .dat (.slice u64) (.L (nums R))), (0, .dat (.slice u64) l)], []), fun i => R.length - i.1,
    ⟨0, Nat.zero_le _⟩, ⟨[], rfl, ⟨rfl, slotD (congrArg D.L eL), rfl, trivial⟩, trivial⟩, ?_⟩
  intro i
  obtain ⟨i, hi⟩ := i
  refine ⟨fun h3 => ?_, fun h3 => ?_⟩
  · have hlt : i < (nums R).length := ltN h3
    have hlt' : i < R.length := by rw [← hnl]; exact hlt
    have w1 : 0 < i → IntKind.i64.wrap ((i : Int) - 1) = ((i - 1 : Nat) : Int) := fun h => w64 (by omega) (by omega)
    refine ⟨fun _ => ix hlt, fun h1 => ?_, by kernel_rfl, fun h1 => ?_, fun h1 => ?_⟩
    · have h1 : 0 < i := ltN (i := 0) (keyOne h1)
      exact ixW (w1 h1) (show i - 1 < (nums R).length by omega)
    · have h1 : (ltB ((0 : Nat) : Int) (i : Int) && leB ((nums R).getD i .Z).int ((nums R).getD (IntKind.i64.wrap ((i : Int) - 1)).toNat .Z).int) = true := h1
      simp only [Bool.and_eq_true] at h1
      have h9 : 0 < i := ltN (i := 0) h1.1
      have h8 := h1.2
      rw [w1 h9, Int.toNat_natCast, nums_getD, nums_getD, leB_true] at h8
      have h7 := List.pairwise_iff_getElem.1 hst (i - 1) i (by omega) hlt' (by omega)
      rw [List.getD_eq_getElem?_getD, List.getD_eq_getElem?_getD, List.getElem?_eq_getElem hlt', List.getElem?_eq_getElem (by omega)] at h8
      simp only [Option.getD_some] at h8
      omega
    · clear h1
      refine ⟨{ k : Nat // k ≤ i }, 28, fun k => ([(6, .dat i64 (.I k.1)), (5, .dat i64 (.I i)), (3, .dat (.slice u64) (.L (nums R))), (0, .dat (.slice u64) l)], []), fun k => i - k.1,
        ⟨0, Nat.zero_le _⟩, ⟨[], rfl, ⟨rfl, rfl, rfl, rfl, trivial⟩, trivial⟩, ?_⟩
      intro k
      obtain ⟨k, hk⟩ := k
      refine ⟨fun h4 => ?_, fun h4 => ?_⟩
      · have hkl : k < i := ltN h4
        have hk' : k < (nums R).length := by omega
        refine ⟨ix hlt, ix hk', by kernel_rfl, fun h5 => ?_, fun h5 => ?_⟩
        · replace h5 : (!hasI (nums R) (orI ((nums R).getD i .Z).int ((nums R).getD k .Z).int)) = true := h5
          rw [nums_getD, nums_getD, hasI_nums (hcl.c _ _ (mem i hlt') (mem k (by omega)))] at h5
          cases h5
        · exact ⟨⟨k + 1, hkl⟩, ⟨[], rfl, ⟨slot (i64_1 (n := k) (by omega)), rfl, rfl, rfl, trivial⟩, trivial⟩, stepLt hkl⟩
      · exact ⟨⟨i + 1, hlt'⟩, ⟨[], rfl, ⟨slot (i64_1 (n := i) (by omega)), rfl, rfl, trivial⟩, trivial⟩, stepLt hlt'⟩
  · clear h3
    refine ⟨{ i : Nat // i ≤ l.list.length }, 0, fun i => ([(7, .dat i64 (.I i.1)), (3, .dat (.slice u64) (.L (nums R))), (0, .dat (.slice u64) l)], []), fun i => l.list.length - i.1,
      ⟨0, Nat.zero_le _⟩, ⟨[], rfl, ⟨rfl, rfl, rfl, trivial⟩, trivial⟩, ?_⟩
    intro i
    obtain ⟨i, hi⟩ := i
    refine ⟨fun h3 => ⟨ix (ltN h3), fun h5 => ?_, fun h5 => ?_⟩, fun h3 => ?_⟩
    · have hlt : i < l.list.length := ltN h3
      replace h5 : (!hasI (nums R) (l.list.getD i .Z).int) = true := h5
      rw [hasI_nums (by rw [hR]; exact foldC_has _ (getD_mem hlt))] at h5
      cases h5
    · have hlt : i < l.list.length := ltN h3
      exact ⟨⟨i + 1, hlt⟩, ⟨[], rfl, ⟨slot (i64_1 (n := i) (by omega)), rfl, rfl, trivial⟩, trivial⟩, stepLt hlt⟩
    · have e1 : cloE (nums R) = 0 := cloE_ok (by rw [famE, if_neg (by rw [hnl]; omega)]) (by rw [hR, clo_again hu, ← hR]; omega)
      have e2 : cloL (nums R) = nums R := by rw [cloL_0 e1, hR, clo_again hu]
      refine Bears.bool ?_
      show (cloE (nums R) == 0 && sameI (nums R) (cloL (nums R)) && true) = true
      rw [e1, e2, sameI_rfl]; rfl
def cJs : Ctx := ⟨tabL, refsL, [(13, cloneS), (12, sSameI u64), (9, sTrue), (14, sJoin), (15, sJoin), (16, sMeet), (17, sMeet),
  (18, sCover), (19, sCover), (10, sClo), (20, sClo)], [], keep, mpsL⟩
def sJoins : Sum := ⟨[.slice u64, u64], fun _ => none, fun _ => .dat .bool (.B true)⟩
theorem joins_fun : FunOK cJs 60 Try.f4 sJoins := fun l hl x hx _ => by
  refine ⟨fun h1 => Bears.bool rfl, fun h1 => ⟨?_, fun h2 => ?_, fun h2 => ⟨fun h3 => ?_, fun h3 => ⟨fun h4 => ?_, fun h4 => ⟨fun h5 => Bears.bool rfl, fun h5 => Bears.bool ?_⟩⟩⟩⟩⟩
  · replace h1 : ltB 70 (l.list.length : Int) = false := h1
    simp only [ltB_false] at h1
    show l.list.length ≤ 1073741824
    omega
  · exact (noII (a := if famE l.list.length = 0 then foldD orI 0 l.list else 0) (e := famE l.list.length) h2).elim
  · exact (noII (a := if meetE l.list.length = 0 then meetI l.list else 0) (e := meetE l.list.length) h3).elim
  · replace h4 : (((if covE l.list x.int = 0 then covA l.list x.int 0 else 0) != (if covE l.list x.int = 0 then covA l.list x.int 0 else 0) || covE l.list x.int != covE l.list x.int) || !sameI l.list l.list) = true := h4
    rw [sameI_rfl] at h4
    simp at h4
  · show (sameI (cloL l.list) (cloL l.list) && cloE l.list == cloE l.list && sameI l.list l.list && true) = true
    rw [sameI_rfl, sameI_rfl]; simp
end Go.Proofs.Ytohgdncglegjmaa
