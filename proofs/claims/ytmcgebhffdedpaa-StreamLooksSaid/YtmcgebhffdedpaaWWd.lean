/- Streams: the labels of one. -/
import Derived.Test.YtmcgebhffdedpaaWWc
import Derived.Test.YtmcgebhffdedpaaWZg
namespace Go.Proofs.Ytmcgebhffdedpaa
open Go Go.Vm
set_option linter.unusedSimpArgs false
set_option linter.unusedVariables false
set_option maxRecDepth 10000
/-- A label is put into an ascending list. -/
def putI (x : Int) : List Int → List Int
  | [] => [x]
  | y :: ys => if x < y then x :: y :: ys else if x = y then y :: ys else y :: putI x ys
abbrev Str (l : List Int) : Prop := l.Pairwise (· < ·)
theorem mem_putI {x z : Int} : ∀ {l : List Int}, z ∈ putI x l ↔ z = x ∨ z ∈ l
  | [] => by simp [putI]
  | y :: ys => by
    rw [putI]
    split
    · simp
    · split
      · rename_i h1 h2
        subst h2; simp
      · rw [List.mem_cons, mem_putI, List.mem_cons]
        constructor
        · rintro (h | h | h)
          · exact .inr (.inl h)
          · exact .inl h
          · exact .inr (.inr h)
        · rintro (h | h | h)
          · exact .inr (.inl h)
          · exact .inl h
          · exact .inr (.inr h)
theorem putI_str {x : Int} : ∀ {l : List Int}, Str l → Str (putI x l)
  | [], _ => by simp [putI]
  | y :: ys, h => by
    have h' := List.pairwise_cons.1 h
    rw [putI]
    split
    · rename_i h1
      refine List.pairwise_cons.2 ⟨fun z hz => ?_, h⟩
      rcases List.mem_cons.1 hz with e | hz
      · omega
      · have := h'.1 z hz; omega
    · split
      · exact h
      · refine List.pairwise_cons.2 ⟨fun z hz => ?_, putI_str h'.2⟩
        rcases mem_putI.1 hz with e | hz
        · omega
        · exact h'.1 z hz
theorem putI_len {x : Int} : ∀ {l : List Int}, l.length ≤ (putI x l).length ∧ (putI x l).length ≤ l.length + 1
  | [] => by simp [putI]
  | y :: ys => by
    have := putI_len (x := x) (l := ys)
    rw [putI]
    split
    · simp
    · split
      · simp
      · simp only [List.length_cons]; omega
theorem putI_mem {x : Int} : ∀ {l : List Int}, Str l → x ∈ l → putI x l = l
  | [], _, h => by cases h
  | y :: ys, h, hm => by
    have h := List.pairwise_cons.1 h
    rw [putI]
    rcases List.mem_cons.1 hm with e | hm
    · subst e; rw [if_neg (by omega), if_pos rfl]
    · have := h.1 x hm
      rw [if_neg (by omega), if_neg (by omega), putI_mem h.2 hm]
theorem putI_at {x : Int} : ∀ {l : List Int} {a : Nat}, a ≤ l.length → (∀ k, k < a → l.getD k 0 < x) → (a < l.length → x < l.getD a 0) → putI x l = l.take a ++ x :: l.drop a
  | [], a, h, _, _ => by
    have : a = 0 := by simpa using h
    subst this; rfl
  | y :: ys, 0, h, h1, h2 => by
    have := h2 (by simp)
    rw [putI, if_pos (by simpa using this)]; rfl
  | y :: ys, a + 1, h, h1, h2 => by
    have h0 := h1 0 (by omega)
    have h0 : y < x := by simpa using h0
    rw [putI, if_neg (by omega), if_neg (by omega), putI_at (l := ys) (a := a) (by simpa using h) (fun k hk => by have := h1 (k + 1) (by omega); simpa using this) (fun hk => by have := h2 (by simpa using hk); simpa using this)]
    rfl
theorem str_eq {a b : List Int} (ha : Str a) (hb : Str b) (h : ∀ z, z ∈ a ↔ z ∈ b) : a = b := by
  have na : a.Nodup := List.Pairwise.imp (fun h => by omega) ha
  have nb : b.Nodup := List.Pairwise.imp (fun h => by omega) hb
  exact List.Perm.eq_of_pairwise (fun x y _ _ h1 h2 => by omega) ha hb ((List.perm_ext_iff_of_nodup na nb).2 h)
theorem bearsS {k : IntKind} {xs ys : List D} (h : ints xs = ints ys) : Bears (.slice (.int k)) (.L xs) (.L ys) := by
  refine Bears.same ?_
  have hl : xs.length = ys.length := by rw [← ints_len xs, ← ints_len ys, h]
  simp only [Same, D.list_L]
  refine ⟨hl, fun j hj => ?_⟩
  rw [getD_int xs j hj, getD_int ys j (by omega)]
  simp only [h]
theorem put_val {l : List D} {i : Nat} {x : Int} (hi : i ≤ l.length) : ints (([] ++ (l.drop 0).take ((i : Int) - 0).toNat) ++ ([D0 u64].set 0 (.I x)) ++ (l.drop (i : Int).toNat).take ((l.length : Int) - (i : Int)).toNat) = (ints l).take i ++ x :: (ints l).drop i := by
  have e1 : ((i : Int) - 0).toNat = i := by omega
  have e2 : ((l.length : Int) - (i : Int)).toNat = l.length - i := by omega
  rw [e1, e2, Int.toNat_natCast]
  have e3 : (l.drop i).take (l.length - i) = l.drop i := List.take_of_length_le (by rw [List.length_drop]; omega)
  rw [e3]
  simp [ints]
theorem put_len {l : List D} {a b : Nat} : ((l.drop b).take a).length ≤ l.length := by
  rw [List.length_take, List.length_drop]; omega
def lblI (l : List D) : List Int := l.foldl (fun R x => putI (lbS x) R) []
theorem lblI_take {l : List D} {i : Nat} (h : i < l.length) : lblI (l.take (i + 1)) = putI (lbS (l.getD i .Z)) (lblI (l.take i)) := by
  have e : l.take (i + 1) = l.take i ++ [l.getD i .Z] := by
    rw [List.take_add_one, List.getD_eq_getElem?_getD, List.getElem?_eq_getElem h]; rfl
  rw [lblI, e, List.foldl_append]; rfl
theorem lbl_foldS : ∀ (l : List D) {R : List Int}, Str R → Str (l.foldl (fun R x => putI (lbS x) R) R)
  | [], _, h => h
  | _ :: l, _, h => lbl_foldS l (putI_str h)
theorem lblI_str (l : List D) : Str (lblI l) := lbl_foldS l List.Pairwise.nil
theorem lbl_foldM : ∀ (l : List D) {R : List Int} {z : Int}, z ∈ l.foldl (fun R x => putI (lbS x) R) R ↔ z ∈ R ∨ z ∈ l.map lbS
  | [], R, z => by simp
  | x :: l, R, z => by
    rw [List.foldl_cons, lbl_foldM l, mem_putI, List.map_cons, List.mem_cons]
    constructor
    · rintro ((h | h) | h)
      · exact .inr (.inl h)
      · exact .inl h
      · exact .inr (.inr h)
    · rintro (h | h | h)
      · exact .inl (.inr h)
      · exact .inl (.inl h)
      · exact .inr h
theorem lblI_mem {l : List D} {z : Int} : z ∈ lblI l ↔ z ∈ l.map lbS := by rw [lblI, lbl_foldM]; simp
theorem lbl_foldL : ∀ (l : List D) {R : List Int}, (l.foldl (fun R x => putI (lbS x) R) R).length ≤ R.length + l.length
  | [], R => by simp
  | x :: l, R => by
    have h1 := lbl_foldL l (R := putI (lbS x) R)
    have h2 := (putI_len (x := lbS x) (l := R)).2
    rw [List.foldl_cons, List.length_cons]; omega
theorem lblI_len (l : List D) : (lblI l).length ≤ l.length := by
  have h := lbl_foldL l (R := [])
  rw [List.length_nil, Nat.zero_add] at h
  exact h
def labL (l : List D) : List D := if chkE l = 0 then nums (lblI l) else []
def sLab : Sum := ⟨[.slice storedS], fun _ => none, fun
  | [l] => .tup [.dat (.slice u64) (.L (labL l.list)), .dat i64 (.I (chkE l.list))]
  | _ => .und⟩
theorem lab_0 {l : List D} (h : chkE l = 0) : labL l = nums (lblI l) := if_pos h
theorem lab_1 {l : List D} (h : chkE l ≠ 0) : labL l = [] := if_neg h
set_option maxHeartbeats 4000000 in
theorem labR_fun : FunOK cFiR 100 Try.f20 sLab := fun l hl _ => by
  simp only [InR] at hl
  refine ⟨{ x : Nat × List D // x.1 ≤ l.list.length ∧ ints x.2 = lblI (l.list.take x.1) ∧ (chkE l.list ≠ 0 → x.1 = 0) }, 3, fun x => ([(6, .dat i64 (.I x.1.1)), (5, .own 2 u64), (4, .dat i64 (.I (chkE l.list))), (0, .dat (.slice storedS) l)], [(2, .froz u64 x.1.2)]), fun x => l.list.length - x.1.1,
    ⟨(0, []), Nat.zero_le _, rfl, fun _ => rfl⟩, ⟨[(2, 1)], rfl, ⟨rfl, rfl, rfl, rfl, trivial⟩, ⟨rfl, trivial⟩⟩, ?_⟩
  intro x
  obtain ⟨⟨k, X⟩, hk, hX, hk0⟩ := x
  simp only at hk hX hk0
  have cnd : ∀ b : Bool, (ltB (k : Int) (l.list.length : Int) && chkE l.list == 0) = b → b = true → k < l.list.length ∧ chkE l.list = 0 := fun b h1 h2 => by
    subst h2
    simp only [Bool.and_eq_true, ltB_true, beq_iff_eq] at h1
    omega
  refine ⟨fun h1 => ⟨ix (cnd true h1 rfl).1, ?_⟩, fun h1 => ?_⟩
  · obtain ⟨hlt, h0⟩ := cnd true h1 rfl
    have hlen := chk_len h0
    obtain ⟨x, hx⟩ : ∃ x, x = lbS (l.list.getD k .Z) := ⟨_, rfl⟩
    refine ⟨{ a : Nat // a ≤ X.length ∧ ∀ j, j < a → (X.getD j .Z).int < x }, 3, fun a => ([(8, .dat i64 (.I a.1)), (7, .dat u64 (.I x)), (6, .dat i64 (.I k)), (5, .own 2 u64), (4, .dat i64 (.I (chkE l.list))), (0, .dat (.slice storedS) l)], [(2, .froz u64 X)]), fun a => X.length - a.1,
      ⟨0, Nat.zero_le _, fun j hj => by omega⟩, ⟨[], rfl, ⟨rfl, slot hx.symm, rfl, rfl, rfl, rfl, trivial⟩, ⟨rfl, trivial⟩⟩, ?_⟩
    intro a
    obtain ⟨a, ha, ha0⟩ := a
    have hsX : Str (ints X) := by rw [hX]; exact lblI_str _
    have hXl : X.length ≤ 1000 := by
      have h := lblI_len (l.list.take k)
      rw [← hX, ints_len, List.length_take] at h
      omega
    have gi : ∀ j, j < X.length → (ints X).getD j 0 = (X.getD j .Z).int := fun j hj => by
      rw [getD_int X j hj, List.getD_eq_getElem?_getD, List.getElem?_eq_getElem (by rw [ints_len]; exact hj)]; rfl
    have hnx : lblI (l.list.take (k + 1)) = putI x (ints X) := by rw [lblI_take hlt, hX, hx]
    have hlen3 := put_len (l := X) (a := ((a : Int) - 0).toNat) (b := 0)
    have hlen4 := put_len (l := X) (a := ((X.length : Int) - (a : Int)).toNat) (b := (a : Int).toNat)
    refine ⟨fun h1 => ix (ltN (keyOne h1)), fun h1 => ?_, fun h1 => ⟨fun h2 => ?_, fun h2 => ⟨?_, ?_, ?_, ?_, ?_, by kernel_rfl, ?_⟩, fun h2 => ?_⟩⟩
    · replace h1 : (ltB (a : Int) (X.length : Int) && ltB (X.getD a .Z).int x) = true := h1
      simp only [Bool.and_eq_true, ltB_true] at h1
      have hal : a < X.length := by omega
      refine ⟨⟨a + 1, hal, fun j hj => ?_⟩, ⟨[], rfl, ⟨slot (i64_1 (n := a) (by omega)), rfl, rfl, rfl, rfl, rfl, trivial⟩, ⟨rfl, trivial⟩⟩, stepLt hal⟩
      rcases Nat.lt_or_eq_of_le (Nat.le_of_lt_succ hj) with e | e
      · exact ha0 j e
      · subst e; exact h1.2
    · have h2 : ((a : Int) == (X.length : Int)) = false := h2
      have h2 : ¬ (a : Int) = (X.length : Int) := by simpa using h2
      have hal : a < X.length := by omega
      exact ix hal
    · show 0 ≤ (0 : Int) ∧ (0 : Int) ≤ (a : Int) ∧ (a : Int) ≤ (X.length : Int)
      omega
    · show 0 + ((X.drop 0).take ((a : Int) - 0).toNat).length ≤ 1073741824
      omega
    · show (([] : List D) ++ (X.drop 0).take ((a : Int) - 0).toNat).length + 1 ≤ 1073741824
      rw [List.nil_append]; omega
    · show 0 ≤ (a : Int) ∧ (a : Int) ≤ (X.length : Int) ∧ (X.length : Int) ≤ (X.length : Int)
      omega
    · show ((([] : List D) ++ (X.drop 0).take ((a : Int) - 0).toNat) ++ ([D0 u64].set 0 (.I x))).length + ((X.drop (a : Int).toNat).take ((X.length : Int) - (a : Int)).toNat).length ≤ 1073741824
      rw [List.nil_append, List.length_append, List.length_set, List.length_singleton]; omega
    · replace h1 : (ltB (a : Int) (X.length : Int) && ltB (X.getD a .Z).int x) = false := h1
      replace h2 : ((a : Int) == (X.length : Int) || (X.getD a .Z).int != x) = true := h2
      have hC : a < (ints X).length → x < (ints X).getD a 0 := fun hal => by
        rw [ints_len] at hal
        rw [gi a hal]
        have hd : ltB (a : Int) (X.length : Int) = true := by rw [ltB_true]; omega
        have hd2 : ((a : Int) == (X.length : Int)) = false := by rw [beq_eq_false_iff_ne]; omega
        rw [hd, Bool.true_and, ltB_false] at h1
        rw [hd2, Bool.false_or, bne_iff_ne] at h2
        omega
      have e := putI_at (x := x) (l := ints X) (a := a) (by rw [ints_len]; exact ha) (fun j hj => by rw [gi j (by omega)]; exact ha0 j hj) hC
      refine ⟨⟨(k + 1, ([] ++ (X.drop 0).take ((a : Int) - 0).toNat) ++ ([D0 u64].set 0 (.I x)) ++ (X.drop (a : Int).toNat).take ((X.length : Int) - (a : Int)).toNat), hlt, ?_, fun h => absurd h0 h⟩, ⟨[(2, 25)], rfl, ⟨slot (i64_1 (n := k) (by omega)), rfl, rfl, rfl, trivial⟩, ⟨rfl, trivial⟩⟩, stepLt hlt⟩
      rw [hnx, e]
      exact put_val ha
    · replace h2 : ((a : Int) == (X.length : Int) || (X.getD a .Z).int != x) = false := h2
      simp only [Bool.or_eq_false_iff, beq_eq_false_iff_ne, bne_eq_false_iff_eq] at h2
      have hal : a < X.length := by have := h2.1; omega
      have hm : x ∈ ints X := by
        rw [← h2.2, getD_int X a hal]
        exact List.getElem_mem _
      exact ⟨⟨(k + 1, X), hlt, by rw [hnx, putI_mem hsX hm], fun h => absurd h0 h⟩, ⟨[], rfl, ⟨slot (i64_1 (n := k) (by omega)), rfl, rfl, rfl, trivial⟩, ⟨rfl, trivial⟩⟩, stepLt hlt⟩
  · replace h1 : (ltB (k : Int) (l.list.length : Int) && chkE l.list == 0) = false := h1
    refine ⟨bearsS ?_, Bears.int rfl, trivial⟩
    by_cases h0 : chkE l.list = 0
    · rw [h0] at h1
      have e := geN hk (by simpa using h1)
      subst e
      rw [lab_0 h0, ints_nums, hX, List.take_length]
    · have e := hk0 h0
      subst e
      rw [lab_1 h0, hX]; rfl
theorem sorted_le {S : List Int} (h : S.Pairwise (· ≤ ·)) {i j : Nat} (hij : i ≤ j) (hj : j < S.length) : S.getD i 0 ≤ S.getD j 0 := by
  rw [List.getD_eq_getElem?_getD, List.getD_eq_getElem?_getD, List.getElem?_eq_getElem (by omega), List.getElem?_eq_getElem hj]
  rcases Nat.lt_or_eq_of_le hij with h1 | h1
  · exact List.pairwise_iff_getElem.1 h i j (by omega) hj h1
  · subst h1; exact Int.le_refl _
theorem take_snoc {S : List Int} {j : Nat} (h : j < S.length) : S.take (j + 1) = S.take j ++ [S.getD j 0] := by
  rw [List.take_add_one, List.getD_eq_getElem?_getD, List.getElem?_eq_getElem h]; rfl
theorem mem_take_le {S : List Int} (h : S.Pairwise (· ≤ ·)) {j : Nat} {z : Int} (hj : j < S.length) (hz : z ∈ S.take (j + 1)) : z ≤ S.getD j 0 := by
  obtain ⟨i, hi, e⟩ := List.getElem_of_mem hz
  rw [List.length_take] at hi
  rw [List.getElem_take] at e
  have := sorted_le h (i := i) (j := j) (by omega) hj
  rw [List.getD_eq_getElem?_getD, List.getElem?_eq_getElem (by omega)] at this
  simp only [Option.getD_some] at this
  rw [← e]; exact this
theorem str_snoc {l : List Int} {x : Int} (h : Str l) (hx : ∀ z, z ∈ l → z < x) : Str (l ++ [x]) := by
  refine List.pairwise_append.2 ⟨h, by simp, fun a ha b hb => ?_⟩
  rw [List.mem_singleton] at hb
  subst hb; exact hx a ha
theorem last_mem {S : List Int} {j : Nat} (h1 : 1 ≤ j) (h : j ≤ S.length) : S.getD (j - 1) 0 ∈ S.take j := by
  obtain ⟨i, rfl⟩ : ∃ i, j = i + 1 := ⟨j - 1, by omega⟩
  rw [take_snoc (by omega), Nat.add_sub_cancel]
  simp
theorem nums_take {S : List Int} {k : Nat} : ints ((nums S).take k) = S.take k := by
  have h : ints ((nums S).take k) = (ints (nums S)).take k := by simp [ints]
  rw [h, ints_nums]
theorem subE {s : Sh} {o a b a' b' : Nat} (h1 : a = a') (h2 : b = b') : some (HV.sub o s a b) = some (HV.sub o s a' b') := by rw [h1, h2]
theorem nums_get {S : List Int} {k : Nat} : ((nums S).getD k .Z).int = S.getD k 0 := by
  rw [nums, List.getD_eq_getElem?_getD, List.getD_eq_getElem?_getD, List.getElem?_map]
  cases S[k]? <;> rfl
theorem clr_take {s : Sh} {a b : Nat} {xs : List D} (h : a ≤ xs.length) : (clrL s a b xs).take a = xs.take a ∧ a ≤ (clrL s a b xs).length := by
  have h1 : (xs.take a).length = a := by rw [List.length_take]; omega
  constructor
  · rw [clrL, List.append_assoc, List.take_append_of_le_length (by omega), List.take_take, Nat.min_self]
  · rw [clrL, List.length_append, List.length_append, h1]; omega
structure InvC (S : List Int) (k j : Nat) (ys : List D) : Prop where
  len : ys.length = S.length
  k1 : 1 ≤ k
  kj : k < j
  jn : j ≤ S.length
  str : Str (ints (ys.take k))
  mem : ∀ z, z ∈ ints (ys.take k) ↔ z ∈ S.take j
  old : ∀ i, j ≤ i + 1 → i < S.length → (ys.getD i .Z).int = S.getD i 0
theorem InvC.skip {S : List Int} {k j : Nat} {ys : List D} (h : InvC S k j ys) (hj : j < S.length) (he : S.getD j 0 = S.getD (j - 1) 0) : InvC S k (j + 1) ys where
  len := h.len
  k1 := h.k1
  kj := by have := h.kj; omega
  jn := hj
  str := h.str
  mem := fun z => by
    rw [h.mem, take_snoc hj, List.mem_append, List.mem_singleton]
    refine ⟨.inl, fun hz => ?_⟩
    rcases hz with hz | hz
    · exact hz
    · rw [hz, he]; exact last_mem (by have := h.kj; omega) h.jn
  old := fun i hi h2 => h.old i (by omega) h2
theorem ints_set {ys : List D} {k : Nat} {x : Int} (h : k < ys.length) : ints ((ys.set k (.I x)).take (k + 1)) = ints (ys.take k) ++ [x] := by
  rw [List.take_add_one, List.getElem?_set_self h, List.take_set_of_le (Nat.le_refl k)]
  simp [ints]
theorem InvC.put {S : List Int} (hS : S.Pairwise (· ≤ ·)) {k j : Nat} {ys : List D} (h : InvC S k j ys) (hj : j < S.length) (he : S.getD j 0 ≠ S.getD (j - 1) 0) : InvC S (k + 1) (j + 1) (ys.set k (.I (S.getD j 0))) where
  len := by rw [List.length_set]; exact h.len
  k1 := by omega
  kj := by have := h.kj; omega
  jn := hj
  str := by
    have hk := h.kj
    rw [ints_set (by rw [h.len]; omega)]
    refine str_snoc h.str fun z hz => ?_
    rw [h.mem] at hz
    obtain ⟨i, rfl⟩ : ∃ i, j = i + 1 := ⟨j - 1, by omega⟩
    have h1 := mem_take_le hS (by omega) hz
    have h2 := sorted_le hS (i := i) (j := i + 1) (by omega) hj
    simp only [Nat.add_sub_cancel] at he
    omega
  mem := fun z => by
    have hk := h.kj
    rw [ints_set (by rw [h.len]; omega), take_snoc hj, List.mem_append, List.mem_append, h.mem]
  old := fun i hi h2 => by
    have hk := h.kj
    rw [List.getD_eq_getElem?_getD, List.getElem?_set_ne (by omega), ← List.getD_eq_getElem?_getD]
    exact h.old i (by omega) h2
theorem InvC.first {S : List Int} {k : Nat} (h1 : 1 ≤ k) (hk : k < S.length) (hs : Str (S.take k)) (he : S.getD k 0 = S.getD (k - 1) 0) : InvC S k (k + 1) (nums S) where
  len := by simp [nums]
  k1 := h1
  kj := by omega
  jn := hk
  str := by
    have : ints ((nums S).take k) = S.take k := nums_take
    rw [this]; exact hs
  mem := fun z => by
    have : ints ((nums S).take k) = S.take k := nums_take
    rw [this, take_snoc hk, List.mem_append, List.mem_singleton]
    refine ⟨.inl, fun hz => ?_⟩
    rcases hz with hz | hz
    · exact hz
    · rw [hz, he]; exact last_mem h1 (by omega)
  old := fun i _ hi => by
    rw [nums, List.getD_eq_getElem?_getD, List.getD_eq_getElem?_getD, List.getElem?_map, List.getElem?_eq_getElem hi]; rfl
theorem str_more {S : List Int} (hS : S.Pairwise (· ≤ ·)) {k : Nat} (h1 : 1 ≤ k) (hk : k < S.length) (hs : Str (S.take k)) (he : S.getD k 0 ≠ S.getD (k - 1) 0) : Str (S.take (k + 1)) := by
  rw [take_snoc hk]
  refine str_snoc hs fun z hz => ?_
  obtain ⟨i, rfl⟩ : ∃ i, k = i + 1 := ⟨k - 1, by omega⟩
  have h1 := mem_take_le hS (by omega) hz
  have h2 := sorted_le hS (i := i) (j := i + 1) (by omega) hk
  simp only [Nat.add_sub_cancel] at he
  omega
theorem lbl_fin {l : List D} {X Y : List D} (hX : ints X = l.map lbS) (hs : Str (ints Y)) (hm : ∀ z, z ∈ ints Y ↔ z ∈ sortI (ints X)) : ints Y = lblI l :=
  str_eq hs (lblI_str l) fun z => by rw [hm, (sortI_perm _).mem_iff, hX, lblI_mem]
noncomputable def fnsL : List (Nat × Func) := [(39, Try.f39)]
noncomputable def cLa : Ctx := ⟨tabW, refsW, [(6, sChk)], fnsL, keep, (38 + 1000000, .msum mSortZ) :: (35 + 2000000, .flag false) :: mpsW⟩
set_option maxHeartbeats 4000000 in
theorem lab_fun : FunOK cLa 100 Try.f19 sLab := fun l hl _ => by
  simp only [InR] at hl
  refine ⟨fun h1 => ⟨Bears.same (eqSame (by rw [lab_1 (bneT h1)])), Bears.int rfl, trivial⟩, fun h1 => ?_⟩
  have h0 : chkE l.list = 0 := bneF h1
  have hlen := chk_len h0
  refine ⟨{ x : Nat × List D // x.1 ≤ l.list.length ∧ x.2.length = x.1 ∧ ints x.2 = (l.list.take x.1).map lbS }, 3, fun x => ([(19, .dat i64 (.I x.1.1)), (18, .dat i64 (.I l.list.length)), (17, .dat (.slice storedS) l), (6, .own 2 u64)], [(2, .grow u64 x.1.2)]), fun x => l.list.length - x.1.1,
    ⟨(0, []), Nat.zero_le _, rfl, rfl⟩, ⟨[(2, 1)], rfl, ⟨rfl, rfl, rfl, rfl, trivial⟩, ⟨rfl, trivial⟩⟩, ?_⟩
  intro x
  obtain ⟨⟨k, X⟩, hk, hXl, hX⟩ := x
  simp only at hk hXl hX
  refine ⟨fun h1 => ⟨?_, ?_, ?_⟩, fun h1 => ⟨?_, fun h2 => ⟨?_, Bears.int h0.symm, trivial⟩, fun h2 => ?_⟩⟩
  · exact ix (ltN h1)
  · show X.length + 1 ≤ 1073741824
    omega
  · have hlt : k < l.list.length := ltN h1
    refine ⟨⟨(k + 1, X ++ [.I (lbS (l.list.getD k .Z))]), hlt, by simp [hXl], ?_⟩, ⟨[(2, 5)], rfl, ⟨slot (i64_1 (n := k) (by omega)), rfl, rfl, rfl, trivial⟩, ⟨rfl, trivial⟩⟩, stepLt hlt⟩
    have e : l.list.take (k + 1) = l.list.take k ++ [l.list.getD k .Z] := by
      rw [List.take_add_one, List.getD_eq_getElem?_getD, List.getElem?_eq_getElem hlt]; rfl
    rw [e, List.map_append, ← hX, ints, ints, List.map_append]; rfl
  · show X.length ≤ 1000000
    omega
  · have hkl := geN hk h1
    subst hkl
    rw [List.take_length] at hX
    replace h2 : ltB ((sortD X).length : Int) 2 = true := h2
    rw [ltB_true] at h2
    refine bearsS ?_
    rw [lab_0 h0, ints_nums]
    show ints (sortD X) = _
    refine lbl_fin hX ?_ fun z => by rw [sortD, ints_nums]
    have hl : (sortI (ints X)).length < 2 := by rw [sortD, nums, List.length_map] at h2; omega
    rw [sortD, ints_nums]
    obtain ⟨S, hS⟩ : ∃ S, S = sortI (ints X) := ⟨_, rfl⟩
    rw [← hS] at hl ⊢
    match S, hl with
    | [], _ => exact List.Pairwise.nil
    | [a], _ => exact List.pairwise_singleton _ _
  have hkl := geN hk h1
  subst hkl
  rw [List.take_length] at hX
  replace h2 : ltB ((sortD X).length : Int) 2 = false := h2
  rw [ltB_false] at h2
  obtain ⟨S, hS⟩ : ∃ S, S = sortI (ints X) := ⟨_, rfl⟩
  have hSs : S.Pairwise (· ≤ ·) := by rw [hS]; exact sortI_sorted _
  have hSD : sortD X = nums S := by rw [hS]; rfl
  have hSl : S.length = X.length := by rw [hS, sortI_len, ints_len]
  have hnl : (nums S).length = S.length := by simp [nums]
  rw [hSD, hnl] at h2
  refine ⟨{ k : Nat // 1 ≤ k ∧ k ≤ S.length ∧ Str (S.take k) }, 4, fun k => ([(3, .dat i64 (.I k.1)), (2, .own 3 u64), (0, .own 2 u64)], [(3, .grow u64 []), (2, .grow u64 (nums S))]), fun k => S.length - k.1,
    ⟨1, Nat.le_refl _, by omega, ?_⟩, ⟨[], rfl, ⟨rfl, rfl, rfl, trivial⟩, ⟨rfl, gro hSD, trivial⟩⟩, ?_⟩
  · have : (S.take 1).length ≤ 1 := by rw [List.length_take]; omega
    match S.take 1, this with
    | [], _ => exact List.Pairwise.nil
    | [a], _ => exact List.pairwise_singleton _ _
  intro k
  obtain ⟨k, hk1, hkn, hks⟩ := k
  have wk : IntKind.i64.wrap ((k : Int) - 1) = ((k - 1 : Nat) : Int) := w64 (by omega) (by omega)
  refine ⟨fun h3 => ⟨?_, ?_, by kernel_rfl, fun h4 => ⟨?_, ?_⟩, fun h4 => ?_⟩, fun h3 => ⟨?_, Bears.int h0.symm, trivial⟩⟩
  · exact ix (ltN h3)
  · have h3 : k < (nums S).length := ltN h3
    exact ixW wk (show k - 1 < (nums S).length by omega)
  · show 0 ≤ (k : Int) ∧ (k : Int) ≤ ((nums S).length : Int) ∧ ((nums S).length : Int) ≤ ((nums S).length : Int)
    omega
  · have h3 : k < (nums S).length := ltN h3
    rw [hnl] at h3
    replace h4 : (((nums S).getD k .Z).int == ((nums S).getD (IntKind.i64.wrap ((k : Int) - 1)).toNat .Z).int) = true := h4
    rw [wk, Int.toNat_natCast, nums_get, nums_get, beq_iff_eq] at h4
    refine ⟨{ x : Nat × Nat × List D // InvC S x.1 (k + x.2.1) x.2.2 ∧ 1 ≤ x.2.1 }, 24, fun x => ([(5, .dat i64 (.I x.1.2.1)), (4, .sub 2 u64 k S.length), (3, .dat i64 (.I x.1.1)), (2, .own 3 u64), (0, .own 2 u64)], [(3, .grow u64 []), (2, .grow u64 x.1.2.2)]), fun x => S.length - k - x.1.2.1,
      ⟨(k, 1, nums S), InvC.first hk1 h3 hks h4, Nat.le_refl _⟩, ⟨[], rfl, ⟨rfl, subE (Int.toNat_natCast _) (by rw [Int.toNat_natCast, hnl]), rfl, rfl, rfl, trivial⟩, ⟨rfl, rfl, trivial⟩⟩, ?_⟩
    intro x
    obtain ⟨⟨k', j, ys⟩, hI, hj1⟩ := x
    simp only at hI hj1
    have hkj := hI.kj
    have hjn := hI.jn
    have hyl := hI.len
    have hk1' := hI.k1
    have wj : IntKind.i64.wrap ((j : Int) - 1) = ((j - 1 : Nat) : Int) := w64 (by omega) (by omega)
    have o1 : (ys.getD (k + (IntKind.i64.wrap ((j : Int) - 1)).toNat) .Z).int = S.getD (k + j - 1) 0 := by
      rw [wj, Int.toNat_natCast, ← hI.old (k + j - 1) (by omega) (by omega)]
      congr 2; omega
    refine ⟨fun h5 => ⟨?_, ?_, by kernel_rfl, fun h6 => ⟨?_, ?_, ?_⟩, fun h6 => ?_⟩, fun h5 => ⟨?_, ?_, ?_, Bears.int h0.symm, trivial⟩⟩
    · have h5 : j < S.length - k := ltN h5
      show 0 ≤ (j : Int) ∧ k + j < S.length
      omega
    · have h5 : j < S.length - k := ltN h5
      show 0 ≤ IntKind.i64.wrap ((j : Int) - 1) ∧ k + (IntKind.i64.wrap ((j : Int) - 1)).toNat < S.length
      rw [wj, Int.toNat_natCast]
      omega
    · have h5 : j < S.length - k := ltN h5
      show 0 ≤ (j : Int) ∧ k + j < S.length
      omega
    · have h5 : j < S.length - k := ltN h5
      have hb : k' < ys.length := by omega
      exact ix hb
    · have h5 : j < S.length - k := ltN h5
      replace h6 : ((ys.getD (k + j) .Z).int != (ys.getD (k + (IntKind.i64.wrap ((j : Int) - 1)).toNat) .Z).int) = true := h6
      have o2 := hI.old (k + j) (by omega) (by omega)
      rw [o1, o2, bne_iff_ne] at h6
      refine ⟨⟨(k' + 1, j + 1, ys.set k' (.I (S.getD (k + j) 0))), hI.put hSs (by omega) h6, by show 1 ≤ j + 1; omega⟩, ⟨[], rfl, ⟨slot (i64_1 (n := j) (by omega)), rfl, slot (i64_1 (n := k') (by omega)), rfl, rfl, trivial⟩, ⟨rfl, gro ?_, trivial⟩⟩, by show S.length - k - (j + 1) < S.length - k - j; omega⟩
      show ys.set k' (.I (ys.getD (k + j) .Z).int) = _
      rw [o2]
    · have h5 : j < S.length - k := ltN h5
      replace h6 : ((ys.getD (k + j) .Z).int != (ys.getD (k + (IntKind.i64.wrap ((j : Int) - 1)).toNat) .Z).int) = false := h6
      have o2 := hI.old (k + j) (by omega) (by omega)
      rw [o1, o2, bne_eq_false_iff_eq] at h6
      exact ⟨⟨(k', j + 1, ys), hI.skip (by omega) h6, by show 1 ≤ j + 1; omega⟩, ⟨[], rfl, ⟨slot (i64_1 (n := j) (by omega)), rfl, rfl, rfl, rfl, trivial⟩, ⟨rfl, rfl, trivial⟩⟩, by show S.length - k - (j + 1) < S.length - k - j; omega⟩
    · show 0 ≤ (k' : Int) ∧ (k' : Int) ≤ (ys.length : Int) ∧ (ys.length : Int) ≤ (ys.length : Int)
      omega
    · have hc := (clr_take (s := u64) (a := k') (b := ys.length) (xs := ys) (by omega)).2
      show 0 ≤ (0 : Int) ∧ (0 : Int) ≤ (k' : Int) ∧ (k' : Int) ≤ ((clrL u64 k' ys.length ys).length : Int)
      omega
    · have hc := (clr_take (s := u64) (a := k') (b := ys.length) (xs := ys) (by omega)).1
      have e : j = S.length - k := geN (by omega) h5
      refine bearsS ?_
      show ints ((clrL u64 k' ys.length ys).take k') = ints (labL l.list)
      rw [hc, lab_0 h0, ints_nums]
      refine lbl_fin hX hI.str fun z => ?_
      rw [hI.mem, ← hS, show k + j = S.length by omega, List.take_length]
  · have h3 : k < (nums S).length := ltN h3
    rw [hnl] at h3
    replace h4 : (((nums S).getD k .Z).int == ((nums S).getD (IntKind.i64.wrap ((k : Int) - 1)).toNat .Z).int) = false := h4
    rw [wk, Int.toNat_natCast, nums_get, nums_get, beq_eq_false_iff_ne] at h4
    exact ⟨⟨k + 1, by omega, h3, str_more hSs hk1 h3 hks h4⟩, ⟨[], rfl, ⟨slot (i64_1 (n := k) (by omega)), rfl, rfl, trivial⟩, ⟨rfl, rfl, trivial⟩⟩, stepLt h3⟩
  · have e := geN (by rw [hnl]; exact hkn) h3
    rw [hnl] at e
    subst e
    rw [List.take_length] at hks
    refine bearsS ?_
    rw [lab_0 h0]
    exact (lbl_fin hX (by rw [ints_nums]; exact hks) fun z => by rw [ints_nums, hS]).trans (ints_nums _).symm
end Go.Proofs.Ytmcgebhffdedpaa
