/- Accounts of families of labels: lists, closures. -/
import Derived.Test.YtohgdncglegjmaaWLc
import Derived.Test.YtohgdncglegjmaaWLs
namespace Go.Proofs.Ytohgdncglegjmaa
open Go Go.Vm
set_option linter.unusedSimpArgs false
set_option linter.unusedVariables false
set_option maxRecDepth 10000
def sHasU : Sum := ⟨[.slice u64, u64], fun _ => none, fun
  | [l, n] => .dat .bool (.B (hasI l.list n.int))
  | _ => .und⟩
theorem hasI_at {l : List D} {n : Int} {i : Nat} (hk : i < l.length) (h : ((l.getD i .Z).int == n) = true) : hasI l n = true := by
  rw [hasI, List.any_eq_true]
  refine ⟨l[i], List.getElem_mem hk, ?_⟩
  rwa [List.getD_eq_getElem?_getD, List.getElem?_eq_getElem hk] at h
theorem hasI_no {l : List D} {n : Int} (h : ∀ k, k < l.length → ((l.getD k .Z).int == n) = false) : hasI l n = false := by
  rw [hasI, List.any_eq_false]
  intro d hd
  obtain ⟨k, hk, rfl⟩ := List.getElem_of_mem hd
  have := h k hk
  rw [List.getD_eq_getElem?_getD, List.getElem?_eq_getElem hk] at this
  simpa using this
theorem hasU_fun : FunOK cL0 60 Try.f11 sHasU := fun l hl n hn _ => by
  simp only [InR] at hl
  have hl := hl.1
  refine ⟨{ i : Nat // i ≤ l.list.length ∧ ∀ k, k < i → ((l.list.getD k .Z).int == n.int) = false }, 0, fun i => ([(5, .dat i64 (.I i.1)), (0, .dat (.slice u64) l), (1, .dat u64 (.I n.int))], []), fun i => l.list.length - i.1,
    ⟨0, by omega, fun k h => by omega⟩, ⟨[], rfl, ⟨rfl, rfl, rfl, trivial⟩, trivial⟩, ?_⟩
  intro x
  obtain ⟨i, hi, h0⟩ := x
  refine ⟨fun h1 => ⟨ix (ltN h1), fun h2 => Bears.bool (hasI_at (ltN h1) h2).symm, fun h2 => ?_⟩, fun h1 => Bears.bool (hasI_no fun k hk => h0 k (by have := geN hi h1; omega)).symm⟩
  have this : i < l.list.length := ltN h1
  exact ⟨⟨i + 1, this, upto h0 h2⟩, ⟨[], rfl, ⟨slot (i64_1 (n := i) (by omega)), rfl, rfl, trivial⟩, trivial⟩, Nat.sub_lt_sub_left this (Nat.lt_succ_self i)⟩
def sameI (a b : List D) : Bool := a.length == b.length && (List.range a.length).all fun j => (a.getD j .Z).int == (b.getD j .Z).int
theorem sameI_rfl (a : List D) : sameI a a = true := by simp [sameI]
def sSameI (s : Sh) : Sum := ⟨[.slice s, .slice s], fun _ => none, fun
  | [a, b] => .dat .bool (.B (sameI a.list b.list))
  | _ => .und⟩
theorem sameInts_fun : FunOK cL0 60 Try.f28 (sSameI i64) := fun a ha b hb _ => by
  simp only [InR] at ha hb
  have ha := ha.1
  have hb := hb.1
  refine ⟨fun h1 => Bears.bool ?_, fun h1 => ?_⟩
  all_goals replace h1 : ((a.list.length : Int) != (b.list.length : Int)) = _ := h1
  · show false = sameI a.list b.list
    simp only [bne_iff_ne, ne_eq, Int.natCast_inj] at h1
    simp only [sameI, beq_eq_false_iff_ne.mpr h1, Bool.false_and]
  simp only [bne_eq_false_iff_eq, Int.natCast_inj] at h1
  refine ⟨{ i : Nat // i ≤ a.list.length ∧ ∀ k, k < i → ((a.list.getD k .Z).int == (b.list.getD k .Z).int) = true }, 0, fun i => ([(5, .dat i64 (.I i.1)), (0, .dat (.slice i64) a), (1, .dat (.slice i64) b)], []), fun i => a.list.length - i.1,
    ⟨0, by omega, fun k h => by omega⟩, ⟨[], rfl, ⟨rfl, rfl, rfl, trivial⟩, trivial⟩, ?_⟩
  intro x
  obtain ⟨i, hi, h0⟩ := x
  have hlt : ltB (i : Int) (a.list.length : Int) = true → i < a.list.length := ltN
  have hge : ltB (i : Int) (a.list.length : Int) = false → i = a.list.length := geN hi
  refine ⟨fun h2 => ⟨ix (hlt h2), (by have := hlt h2; exact ix (h1 ▸ this)), by kernel_rfl, fun h3 => Bears.bool ?_, fun h3 => ?_⟩, fun h2 => Bears.bool ?_⟩
  · replace h3 : ((a.list.getD i .Z).int != (b.list.getD i .Z).int) = true := h3
    show false = sameI a.list b.list
    rw [sameI, not_all_range (hlt h2) (by simpa [bne] using h3), Bool.and_false]
  · replace h3 : ((a.list.getD i .Z).int != (b.list.getD i .Z).int) = false := h3
    have := hlt h2
    exact ⟨⟨i + 1, this, upto h0 (by simpa [bne] using h3)⟩, ⟨[], rfl, ⟨slot (i64_1 (n := i) (by omega)), rfl, rfl, trivial⟩, trivial⟩, Nat.sub_lt_sub_left this (Nat.lt_succ_self i)⟩
  · have e := hge h2
    show true = sameI a.list b.list
    rw [sameI, all_range (fun k hk => h0 k (by omega)), h1]; simp
theorem sameU_fun : FunOK cL0 60 Try.f12 (sSameI u64) := fun a ha b hb _ => by
  simp only [InR] at ha hb
  have ha := ha.1
  have hb := hb.1
  refine ⟨fun h1 => Bears.bool ?_, fun h1 => ?_⟩
  all_goals replace h1 : ((a.list.length : Int) != (b.list.length : Int)) = _ := h1
  · show false = sameI a.list b.list
    simp only [bne_iff_ne, ne_eq, Int.natCast_inj] at h1
    simp only [sameI, beq_eq_false_iff_ne.mpr h1, Bool.false_and]
  simp only [bne_eq_false_iff_eq, Int.natCast_inj] at h1
  refine ⟨{ i : Nat // i ≤ a.list.length ∧ ∀ k, k < i → ((a.list.getD k .Z).int == (b.list.getD k .Z).int) = true }, 0, fun i => ([(5, .dat i64 (.I i.1)), (0, .dat (.slice u64) a), (1, .dat (.slice u64) b)], []), fun i => a.list.length - i.1,
    ⟨0, by omega, fun k h => by omega⟩, ⟨[], rfl, ⟨rfl, rfl, rfl, trivial⟩, trivial⟩, ?_⟩
  intro x
  obtain ⟨i, hi, h0⟩ := x
  have hlt : ltB (i : Int) (a.list.length : Int) = true → i < a.list.length := ltN
  have hge : ltB (i : Int) (a.list.length : Int) = false → i = a.list.length := geN hi
  refine ⟨fun h2 => ⟨ix (hlt h2), (by have := hlt h2; exact ix (h1 ▸ this)), by kernel_rfl, fun h3 => Bears.bool ?_, fun h3 => ?_⟩, fun h2 => Bears.bool ?_⟩
  · replace h3 : ((a.list.getD i .Z).int != (b.list.getD i .Z).int) = true := h3
    show false = sameI a.list b.list
    rw [sameI, not_all_range (hlt h2) (by simpa [bne] using h3), Bool.and_false]
  · replace h3 : ((a.list.getD i .Z).int != (b.list.getD i .Z).int) = false := h3
    have := hlt h2
    exact ⟨⟨i + 1, this, upto h0 (by simpa [bne] using h3)⟩, ⟨[], rfl, ⟨slot (i64_1 (n := i) (by omega)), rfl, rfl, trivial⟩, trivial⟩, Nat.sub_lt_sub_left this (Nat.lt_succ_self i)⟩
  · have e := hge h2
    show true = sameI a.list b.list
    rw [sameI, all_range (fun k hk => h0 k (by omega)), h1]; simp
def cloneS : Sum := ⟨[.slice u64], fun
  | [a] => some (a.list.length ≤ 1073741824)
  | _ => none, fun | [a] => .dat (.slice u64) a | _ => .und⟩
theorem own_fun : FunOK cL0 60 Try.f13 cloneS := fun a ha h => by
  refine ⟨?_, Bears.same ?_⟩
  · show 0 + a.list.length ≤ 1073741824
    replace h : a.list.length ≤ 1073741824 := h
    omega
  · simp [Same]
/-- A label is put into an ascending list. -/
def putI (x : Int) : List Int → List Int
  | [] => [x]
  | y :: ys => if x < y then x :: y :: ys else if x = y then y :: ys else y :: putI x ys
abbrev Str (l : List Int) : Prop := l.Pairwise (· < ·)
theorem mem_putI {x z : Int} : ∀ {l : List Int}, z ∈ putI x l ↔ z = x ∨ z ∈ l
  | [] => by simp [putI]
  | y :: ys => by
    rw [putI]
    split
    · simp
    · split
      · rename_i h1 h2
        subst h2; simp
      · rw [List.mem_cons, mem_putI, List.mem_cons]
        constructor
        · rintro (h | h | h)
          · exact .inr (.inl h)
          · exact .inl h
          · exact .inr (.inr h)
        · rintro (h | h | h)
          · exact .inr (.inl h)
          · exact .inl h
          · exact .inr (.inr h)
theorem putI_str {x : Int} : ∀ {l : List Int}, Str l → Str (putI x l)
  | [], _ => by simp [putI]
  | y :: ys, h => by
    have h' := List.pairwise_cons.1 h
    rw [putI]
    split
    · rename_i h1
      refine List.pairwise_cons.2 ⟨fun z hz => ?_, h⟩
      rcases List.mem_cons.1 hz with e | hz
      · omega
      · have := h'.1 z hz; omega
    · split
      · exact h
      · refine List.pairwise_cons.2 ⟨fun z hz => ?_, putI_str h'.2⟩
        rcases mem_putI.1 hz with e | hz
        · omega
        · exact h'.1 z hz
theorem putI_len {x : Int} : ∀ {l : List Int}, l.length ≤ (putI x l).length ∧ (putI x l).length ≤ l.length + 1
  | [] => by simp [putI]
  | y :: ys => by
    have := putI_len (x := x) (l := ys)
    rw [putI]
    split
    · simp
    · split
      · simp
      · simp only [List.length_cons]; omega
theorem putI_mem {x : Int} : ∀ {l : List Int}, Str l → x ∈ l → putI x l = l
  | [], _, h => by cases h
  | y :: ys, h, hm => by
    have h := List.pairwise_cons.1 h
    rw [putI]
    rcases List.mem_cons.1 hm with e | hm
    · subst e; rw [if_neg (by omega), if_pos rfl]
    · have := h.1 x hm
      rw [if_neg (by omega), if_neg (by omega), putI_mem h.2 hm]
theorem putI_at {x : Int} : ∀ {l : List Int} {a : Nat}, a ≤ l.length → (∀ k, k < a → l.getD k 0 < x) → (a < l.length → x < l.getD a 0) → putI x l = l.take a ++ x :: l.drop a
  | [], a, h, _, _ => by
    have : a = 0 := by simpa using h
    subst this; rfl
  | y :: ys, 0, h, h1, h2 => by
    have := h2 (by simp)
    rw [putI, if_pos (by simpa using this)]; rfl
  | y :: ys, a + 1, h, h1, h2 => by
    have h0 := h1 0 (by omega)
    have h0 : y < x := by simpa using h0
    rw [putI, if_neg (by omega), if_neg (by omega), putI_at (l := ys) (a := a) (by simpa using h) (fun k hk => by have := h1 (k + 1) (by omega); simpa using this) (fun hk => by have := h2 (by simpa using hk); simpa using this)]
    rfl
theorem str_eq {a b : List Int} (ha : Str a) (hb : Str b) (h : ∀ z, z ∈ a ↔ z ∈ b) : a = b := by
  have na : a.Nodup := List.Pairwise.imp (fun h => by omega) ha
  have nb : b.Nodup := List.Pairwise.imp (fun h => by omega) hb
  exact List.Perm.eq_of_pairwise (fun x y _ _ h1 h2 => by omega) ha hb ((List.perm_ext_iff_of_nodup na nb).2 h)
/-- What a label adds to a closure. -/
def goC (R : List Int) (x : Int) (S : List Int) : List Int := R.foldl (fun S y => putI (orI y x) S) S
def stepC (R : List Int) (x : Int) : List Int := goC R x (putI x R)
theorem mem_goC {R S : List Int} {x z : Int} : z ∈ goC R x S ↔ z ∈ S ∨ ∃ y, y ∈ R ∧ z = orI y x := by
  induction R generalizing S with
  | nil => simp [goC]
  | cons y R ih =>
    show z ∈ goC R x (putI (orI y x) S) ↔ _
    rw [ih, mem_putI]
    constructor
    · rintro ((h | h) | ⟨w, hw, h⟩)
      · exact .inr ⟨y, by simp, h⟩
      · exact .inl h
      · exact .inr ⟨w, by simp [hw], h⟩
    · rintro (h | ⟨w, hw, h⟩)
      · exact .inl (.inr h)
      · rcases List.mem_cons.1 hw with e | hw
        · subst e; exact .inl (.inl h)
        · exact .inr ⟨w, hw, h⟩
theorem goC_str {R S : List Int} {x : Int} (h : Str S) : Str (goC R x S) := by
  induction R generalizing S with
  | nil => exact h
  | cons y R ih => exact ih (putI_str h)
theorem goC_len {R S : List Int} {x : Int} : S.length ≤ (goC R x S).length ∧ (goC R x S).length ≤ S.length + R.length := by
  induction R generalizing S with
  | nil => simp [goC]
  | cons y R ih =>
    have h1 := ih (S := putI (orI y x) S)
    have h2 := putI_len (x := orI y x) (l := S)
    show S.length ≤ (goC R x (putI (orI y x) S)).length ∧ (goC R x (putI (orI y x) S)).length ≤ S.length + (R.length + 1)
    omega
theorem mem_stepC {R : List Int} {x z : Int} : z ∈ stepC R x ↔ z = x ∨ z ∈ R ∨ ∃ y, y ∈ R ∧ z = orI y x := by
  rw [stepC, mem_goC, mem_putI, or_assoc]
theorem stepC_str {R : List Int} {x : Int} (h : Str R) : Str (stepC R x) := goC_str (putI_str h)
theorem stepC_len {R : List Int} {x : Int} : R.length ≤ (stepC R x).length ∧ (stepC R x).length ≤ 2 * R.length + 1 := by
  have h1 := goC_len (R := R) (x := x) (S := putI x R)
  have h2 := putI_len (x := x) (l := R)
  rw [stepC]; omega
def cloR (l : List D) : List Int := l.foldl (fun R d => stepC R d.int) []
theorem cloR_take (l : List D) {i : Nat} (h : i < l.length) : cloR (l.take (i + 1)) = stepC (cloR (l.take i)) (l.getD i .Z).int := by
  have e : l.take (i + 1) = l.take i ++ [l.getD i .Z] := by
    rw [List.take_add_one, List.getD_eq_getElem?_getD, List.getElem?_eq_getElem h]; rfl
  rw [cloR, e, List.foldl_append]; rfl
theorem foldC_str : ∀ (l : List D) {R : List Int}, Str R → Str (l.foldl (fun R d => stepC R d.int) R)
  | [], _, h => h
  | d :: l, _, h => foldC_str l (stepC_str h)
theorem cloR_str (l : List D) : Str (cloR l) := foldC_str l List.Pairwise.nil
theorem foldC_len : ∀ (l : List D) {R : List Int}, R.length ≤ (l.foldl (fun R d => stepC R d.int) R).length
  | [], _ => Nat.le_refl _
  | d :: l, R => by
    have h1 := foldC_len l (R := stepC R d.int)
    have h2 := (stepC_len (R := R) (x := d.int)).1
    simp only [List.foldl_cons]; omega
theorem cloR_le (l : List D) (i : Nat) : (cloR (l.take i)).length ≤ (cloR l).length := by
  have h := foldC_len (l.drop i) (R := cloR (l.take i))
  rw [cloR, ← List.foldl_append, List.take_append_drop] at h
  exact h
def cloE (l : List D) : Int := if famE l.length ≠ 0 then famE l.length else if 256 < (cloR l).length then 6 else 0
def cloL (l : List D) : List D := if cloE l = 0 then nums (cloR l) else []
def sClo : Sum := ⟨[.slice u64], fun _ => none, fun
  | [l] => .tup [.dat (.slice u64) (.L (cloL l.list)), .dat i64 (.I (cloE l.list))]
  | _ => .und⟩
theorem cloE_fam {l : List D} (h : famE l.length ≠ 0) : cloE l = famE l.length := by rw [cloE, if_pos h]
theorem cloE_big {l : List D} (h : famE l.length = 0) {i : Nat} (h2 : 256 < (cloR (l.take i)).length) : cloE l = 6 := by
  have := cloR_le l i
  rw [cloE, if_neg (by simp [h]), if_pos (by omega)]
theorem cloE_ok {l : List D} (h : famE l.length = 0) (h2 : (cloR l).length ≤ 256) : cloE l = 0 := by
  rw [cloE, if_neg (by simp [h]), if_neg (by omega)]
theorem cloL_0 {l : List D} (h : cloE l = 0) : cloL l = nums (cloR l) := by rw [cloL, if_pos h]
theorem cloL_1 {l : List D} (h : cloE l ≠ 0) : cloL l = [] := by rw [cloL, if_neg h]
theorem orI_comm (a b : Int) : orI a b = orI b a := by
  show IntKind.u64.wrap ((BitVec.ofInt 64 a ||| BitVec.ofInt 64 b).toNat : Int) = IntKind.u64.wrap ((BitVec.ofInt 64 b ||| BitVec.ofInt 64 a).toNat : Int)
  rw [BitVec.or_comm]
/-- A label comes into a map of labels. -/
def addI (R : List Int) (k : Int) : List Int := if R.contains k = true then R else R ++ [k]
theorem ents_over {k : Int} : ∀ {R : List Int}, R.contains k = true → mPut (.I k) (.B true) (ents R) = ents R
  | y :: R, h => by
    simp only [ents, List.map_cons, mPut]
    by_cases e : y = k
    · subst e; rw [if_pos (by rfl)]
    · rw [if_neg (by rw [D.int_I, D.int_I]; exact e)]
      congr 1
      refine ents_over (R := R) ?_
      rw [List.contains_cons] at h
      have : (k == y) = false := by rw [beq_eq_false_iff_ne]; exact fun h => e h.symm
      rwa [this, Bool.false_or] at h
theorem ents_add (R : List Int) (k : Int) : mPut (.I k) (.B true) (ents R) = ents (addI R k) := by
  rw [addI]
  split
  · rename_i h; exact ents_over h
  · rename_i h; exact ents_put (by simpa using h)
theorem mem_addI {R : List Int} {k z : Int} : z ∈ addI R k ↔ z ∈ R ∨ z = k := by
  rw [addI]
  split
  · rename_i h
    rw [List.contains_iff_mem] at h
    constructor
    · exact .inl
    · rintro (h1 | h1)
      · exact h1
      · subst h1; exact h
  · simp
theorem addI_nodup {R : List Int} {k : Int} (h : R.Nodup) : (addI R k).Nodup := by
  rw [addI]
  split
  · exact h
  · rename_i h1
    rw [List.contains_iff_mem] at h1
    rw [List.nodup_append]
    exact ⟨h, by simp, fun a ha b hb e => by rw [List.mem_singleton] at hb; subst hb; subst e; exact h1 ha⟩
theorem addI_len {R : List Int} {k : Int} : (addI R k).length ≤ R.length + 1 := by
  rw [addI]; split <;> simp
end Go.Proofs.Ytohgdncglegjmaa
