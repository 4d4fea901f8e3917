/- Accounts of families of labels: heights. -/
import Derived.Test.YtohgdncglegjmaaWLi
namespace Go.Proofs.Ytohgdncglegjmaa
open Go Go.Vm
set_option linter.unusedSimpArgs false
set_option linter.unusedVariables false
set_option maxRecDepth 10000
def hgtI (l : List D) : Int := if famE l.length = 0 then (top (ints l) : Int) else 0
def sHgt : Sum := ⟨[.slice u64], fun _ => none, fun
  | [l] => .tup [.dat i64 (.I (hgtI l.list)), .dat i64 (.I (famE l.list.length))]
  | _ => .und⟩
def mSF (F : List D → List D) : MSum := ⟨u64, [.fn 51], fun xs _ => some (xs.length ≤ 64), fun _ _ => .tup [], fun xs _ => F xs⟩
noncomputable def cHe (F : List D → List D) : Ctx := ⟨tabL, refsL, [(33, sFam), (41, sBelow)], [(49, Try.f49), (46, Try.f46)], keep, (50 + 1000000, .msum (mSF F)) :: mpsL⟩
/-- What is known of the sort. -/
def SortsF (F : List D → List D) : Prop := ∀ xs : List D, (∀ d, d ∈ xs → InU d.int) → (ints (F xs)).Perm (ints xs) ∧ (ints (F xs)).Pairwise fun a b => pcI a ≤ pcI b
abbrev nI (l : List Nat) : List D := l.map fun (n : Nat) => D.I (n : Int)
theorem sorts_mem {F : List D → List D} (hF : SortsF F) {xs : List D} (h : ∀ d, d ∈ xs → InU d.int) : (F xs).length = xs.length ∧ (∀ y, y ∈ ints (F xs) ↔ y ∈ ints xs) ∧ (∀ y, y ∈ ints (F xs) → InU y) := by
  have hp := (hF xs h).1
  refine ⟨by have := hp.length_eq; simpa [ints] using this, fun y => hp.mem_iff, fun y hy => ?_⟩
  have := hp.mem_iff.1 hy
  simp only [ints, List.mem_map] at this
  obtain ⟨d, hd, rfl⟩ := this
  exact h d hd
theorem ints_mem {l : List D} {i : Nat} (h : i < l.length) : (l.getD i .Z).int ∈ ints l := List.mem_map.2 ⟨_, getD_mem h, rfl⟩
theorem mem_ints {l : List D} {y : Int} (h : y ∈ ints l) : ∃ i, i < l.length ∧ (l.getD i .Z).int = y := by
  simp only [ints, List.mem_map] at h
  obtain ⟨d, hd, rfl⟩ := h
  obtain ⟨i, hi, rfl⟩ := mem_getD hd
  exact ⟨i, hi, rfl⟩
theorem nI_get {hs : List Nat} {j : Nat} (h : j < hs.length) : ((nI hs).getD j .Z).int = (hs.getD j 0 : Nat) := by
  simp [List.getD_eq_getElem?_getD, List.getElem?_eq_getElem h]
theorem nI_len (hs : List Nat) : (nI hs).length = hs.length := List.length_map ..
theorem nI_set (hs : List Nat) (j v : Nat) : (nI hs).set j (.I (v : Int)) = nI (hs.set j v) := by rw [nI, nI, List.map_set]
theorem nset_get {hs : List Nat} {j k v : Nat} (h : j < hs.length) : (hs.set j v).getD k 0 = if k = j then v else hs.getD k 0 := by
  rw [List.getD_eq_getElem?_getD, List.getD_eq_getElem?_getD, List.getElem?_set]
  by_cases e : j = k
  · subst e; simp [h]
  · rw [if_neg e, if_neg (fun h => e h.symm)]
theorem mxI (a b : Nat) [Decidable ((b : Int) > (a : Int))] : (if (b : Int) > (a : Int) then (b : Int) else (a : Int)) = ((max a b : Nat) : Int) := by split <;> omega
set_option maxHeartbeats 1000000 in
theorem height_fun {F : List D → List D} (hF : SortsF F) : FunOK (cHe F) 100 Try.f26 sHgt := fun l hl _ => by
  simp only [InR] at hl
  refine ⟨fun h1 => ⟨Bears.int (ifF (bneT h1) rfl), Bears.int rfl, trivial⟩, fun h1 b h2 => ?_⟩
  have h0 : famE l.list.length = 0 := bneF h1
  have h64 := fam64 h0
  have hU : ∀ d, d ∈ l.list → InU d.int := fun d hd => by
    obtain ⟨i, hi, rfl⟩ := mem_getD hd
    exact hl.2 i hi
  clear h1
  refine ⟨fun h3 => ?_, fun h3 => ?_⟩
  · have hn : l.list = [] := h2 h3
    have e0 : F [] = [] := by
      have := (sorts_mem hF (xs := []) (fun d h => by cases h)).1
      exact List.eq_nil_of_length_eq_zero this
    refine ⟨Nat.zero_le _, ⟨by show (0 : Int) ≤ ((F []).length : Int); omega, Int.le_refl _, by show ((F []).length : Int) ≤ 1073741824; rw [e0]; decide⟩, ?_⟩
    refine ⟨Unit, 5, fun _ => ([(25, .dat i64 (.I 0)), (24, .dat i64 (.I 0)), (7, .dat i64 (.I 0)), (23, .own 3 u64), (5, .own 3 u64), (6, .own 4 i64)], [(3, .grow u64 []), (4, .grow i64 [])]), fun _ => 0, (), ⟨[(3, 1), (4, 2)], rfl, ⟨rfl, slot (by show ((F []).length : Int) = 0; rw [e0]; rfl), rfl, rfl, rfl, rfl, trivial⟩, ⟨gro e0, gro (by show List.replicate (F []).length (D0 i64) = []; rw [e0]; rfl), trivial⟩⟩, ?_⟩
    intro x
    refine ⟨fun h => (by cases h), fun _ => ⟨Bears.int (ifT h0 ?_), Bears.int h0.symm, trivial⟩⟩
    rw [hn]; rfl
  obtain ⟨S, hS⟩ : ∃ S, S = F ([] ++ l.list) := ⟨_, rfl⟩
  have hSl := sorts_mem hF (xs := [] ++ l.list) hU
  have hpw := (hF ([] ++ l.list) hU).2
  rw [← hS] at hSl hpw
  obtain ⟨hlen, hmem, hSU⟩ := hSl
  have hlen : S.length = l.list.length := hlen
  refine ⟨?_, ?_, ⟨?_, Int.le_refl _, ?_⟩, ?_⟩
  · show 0 + l.list.length ≤ 1073741824
    omega
  · show ([] ++ l.list).length ≤ 64
    exact h64
  · show (0 : Int) ≤ ((F ([] ++ l.list)).length : Int)
    omega
  · show ((F ([] ++ l.list)).length : Int) ≤ 1073741824
    rw [← hS]; omega
  have hg : ∀ k, k < S.length → IsMx (fun v => ∃ j, j < k ∧ lessI (S.getD j .Z).int (S.getD k .Z).int = true ∧ v = hgt (ints S) (S.getD j .Z).int + 1) 1 (hgt (ints S) (S.getD k .Z).int) := fun k hk => by
    refine (hgt_mx hSU (hSU _ (ints_mem hk))).same fun v => ?_
    constructor
    · rintro ⟨j, hj, hl, h⟩; exact ⟨_, ints_mem (by omega), hl, h⟩
    · rintro ⟨y, hy, hl, h⟩
      obtain ⟨j, hj, rfl⟩ := mem_ints hy
      refine ⟨j, ?_, hl, h⟩
      rcases Nat.lt_or_ge j k with e | e
      · exact e
      · exfalso
        have h1 := less_pc (hSU _ (ints_mem hj)) (hSU _ (ints_mem hk)) hl
        rcases Nat.lt_or_eq_of_le e with e | e
        · have := List.pairwise_iff_getElem.1 hpw k j (by simpa [ints] using hk) (by simpa [ints] using hj) e
          rw [← getD_int S k hk, ← getD_int S j hj] at this
          omega
        · subst e; omega
  refine ⟨{ z : Nat × List Nat × Nat // z.1 ≤ S.length ∧ z.2.1.length = S.length ∧ (∀ j, j < z.1 → z.2.1.getD j 0 = hgt (ints S) (S.getD j .Z).int) ∧ IsMx (fun v => ∃ j, j < z.1 ∧ v = hgt (ints S) (S.getD j .Z).int) 0 z.2.2 }, 6, fun z => ([(25, .dat i64 (.I z.1.1)), (24, .dat i64 (.I S.length)), (7, .dat i64 (.I z.1.2.2)), (23, .own 4 u64), (5, .own 4 u64), (6, .own 5 i64)], [(4, .grow u64 S), (5, .grow i64 (nI z.1.2.1))]), fun z => S.length - z.1.1,
    ⟨(0, List.replicate S.length 0, 0), by omega, by simp, fun j h => by omega, .none fun v ⟨j, h, _⟩ => by omega⟩, ⟨[(4, 2), (5, 3)], rfl, ⟨rfl, slot (by rw [hS]; rfl), rfl, rfl, rfl, rfl, trivial⟩, ⟨gro hS.symm, gro (by show List.replicate (F ([] ++ l.list)).length (D0 i64) = nI (List.replicate S.length 0); rw [← hS, nI, List.map_replicate]; rfl), trivial⟩⟩, ?_⟩
  intro z
  obtain ⟨⟨i, hs, out⟩, hi, hhl, hh, hm⟩ := z
  simp only at hi hhl hh hm
  have cS : ∀ {a : Nat}, a < S.length → 0 ≤ (a : Int) ∧ (a : Int) < (S.length : Int) := fun h => by omega
  have cH : ∀ {a : Nat} {m : List Nat}, m.length = S.length → a < S.length → 0 ≤ (a : Int) ∧ (a : Int) < ((nI m).length : Int) := fun e h => by rw [nI_len]; omega
  refine ⟨fun h1 => ?_, fun h1 => ?_⟩
  · have hlt : i < S.length := ltN h1
    clear h1
    refine ⟨cS hlt, cH hhl hlt, ?_⟩
    obtain ⟨x, hx⟩ : ∃ x, x = (S.getD i .Z).int := ⟨_, rfl⟩
    refine ⟨{ z : Nat × List Nat // z.1 ≤ i ∧ z.2.length = S.length ∧ (∀ j, j < i → z.2.getD j 0 = hgt (ints S) (S.getD j .Z).int) ∧ IsMx (fun v => ∃ j, j < z.1 ∧ lessI (S.getD j .Z).int x = true ∧ v = hgt (ints S) (S.getD j .Z).int + 1) 1 (z.2.getD i 0) }, 6, fun z => ([(34, .dat i64 (.I z.1.1)), (33, .dat i64 (.I i)), (9, .dat u64 (.I x)), (8, .dat i64 (.I i)), (25, .dat i64 (.I i)), (24, .dat i64 (.I S.length)), (7, .dat i64 (.I out)), (23, .own 4 u64), (5, .own 4 u64), (6, .own 5 i64)], [(4, .grow u64 S), (5, .grow i64 (nI z.1.2))]), fun z => i - z.1.1,
      ⟨(0, hs.set i 1), by omega, by simpa using hhl, fun j hj => ?_, ?_⟩, ⟨[], rfl, ⟨rfl, rfl, slot hx.symm, rfl, rfl, rfl, rfl, rfl, rfl, rfl, trivial⟩, ⟨rfl, gro ?_, trivial⟩⟩, ?_⟩
    · show (hs.set i 1).getD j 0 = _
      rw [nset_get (by omega), if_neg (by omega)]; exact hh j hj
    · show IsMx _ 1 ((hs.set i 1).getD i 0)
      rw [nset_get (by omega), if_pos rfl]
      exact .none fun v ⟨j, h, _⟩ => by omega
    · show (nI hs).set i (D.puts i64 ((nI hs).getD i .Z) [] (.I 1)) = nI (hs.set i 1)
      rw [D.puts_nil]; exact nI_set hs i 1
    intro z
    obtain ⟨⟨k, gs⟩, hk, hgl, hgh, hgm⟩ := z
    simp only at hk hgl hgh hgm
    refine ⟨fun h1 => ?_, fun h1 => ?_⟩
    · have hkl : k < i := ltN h1
      clear h1
      have hkS : k < S.length := by omega
      have hU1 : ∀ a, a < S.length → hgt (ints S) (S.getD a .Z).int ≤ 65 := fun a ha => hgt_65 hSU (hSU _ (ints_mem ha))
      refine ⟨cS hkS, fun h2 => ?_, fun h2 => ?_⟩
      · replace h2 : lessI (S.getD k .Z).int x = true := h2
        refine ⟨cH hgl hlt, cH hgl hkS, cH hgl hlt, by kernel_rfl, ⟨(k + 1, gs.set i (max (gs.getD i 0) (gs.getD k 0 + 1))), hkl, by simpa using hgl, fun j hj => ?_, ?_⟩, ⟨[], rfl, ⟨slot (i64_1 (n := k) (by omega)), rfl, rfl, rfl, rfl, rfl, rfl, rfl, rfl, rfl, trivial⟩, ⟨rfl, gro ?_, trivial⟩⟩, stepLt hkl⟩
        · show (gs.set i _).getD j 0 = _
          rw [nset_get (by omega), if_neg (by omega)]; exact hgh j hj
        · show IsMx _ 1 ((gs.set i _).getD i 0)
          rw [nset_get (by omega), if_pos rfl, hgh k hkl]
          refine hgm.add fun v => ?_
          constructor
          · rintro ⟨j, hj, hl, h⟩
            rcases Nat.lt_or_eq_of_le (Nat.le_of_lt_succ hj) with e | e
            · exact .inl ⟨j, e, hl, h⟩
            · subst e; exact .inr h
          · rintro (⟨j, hj, hl, h⟩ | h)
            · exact ⟨j, by omega, hl, h⟩
            · exact ⟨k, by omega, h2, h⟩
        · show (nI gs).set i (D.puts i64 ((nI gs).getD i .Z) [] (.I (if IntKind.i64.wrap (((nI gs).getD k .Z).int + 1) > ((nI gs).getD i .Z).int then IntKind.i64.wrap (((nI gs).getD k .Z).int + 1) else ((nI gs).getD i .Z).int))) = _
          have b1 := hU1 k hkS
          rw [D.puts_nil, nI_get (by omega), nI_get (by omega), i64_1 (by rw [hgh k hkl]; omega), mxI]
          exact nI_set gs i _
      · replace h2 : lessI (S.getD k .Z).int x = false := h2
        refine ⟨⟨(k + 1, gs), hkl, hgl, hgh, hgm.same fun v => ?_⟩, ⟨[], rfl, ⟨slot (i64_1 (n := k) (by omega)), rfl, rfl, rfl, rfl, rfl, rfl, rfl, rfl, rfl, trivial⟩, ⟨rfl, rfl, trivial⟩⟩, stepLt hkl⟩
        constructor
        · rintro ⟨j, hj, hl, h⟩
          rcases Nat.lt_or_eq_of_le (Nat.le_of_lt_succ hj) with e | e
          · exact ⟨j, e, hl, h⟩
          · subst e; rw [h2] at hl; cases hl
        · rintro ⟨j, hj, hl, h⟩
          exact ⟨j, by omega, hl, h⟩
    · have e := geN hk h1
      subst e
      have hgi : gs.getD k 0 = hgt (ints S) (S.getD k .Z).int := hgm.unique (hg k hlt) fun v _ => by rw [hx]
      refine ⟨cH hgl hlt, ⟨(k + 1, gs, max out (gs.getD k 0)), hlt, hgl, upto hgh hgi, hm.add fun v => ?_⟩, ⟨[], rfl, ⟨slot (i64_1 (n := k) (by omega)), rfl, slot ?_, rfl, rfl, rfl, trivial⟩, ⟨rfl, rfl, trivial⟩⟩, stepLt hlt⟩
      · constructor
        · rintro ⟨j, hj, h⟩
          rcases Nat.lt_or_eq_of_le (Nat.le_of_lt_succ hj) with e | e
          · exact .inl ⟨j, e, h⟩
          · subst e; exact .inr (h.trans hgi.symm)
        · rintro (⟨j, hj, h⟩ | h)
          · exact ⟨j, by omega, h⟩
          · exact ⟨k, by omega, h.trans hgi⟩
      · show (if ((nI gs).getD k .Z).int > (out : Int) then ((nI gs).getD k .Z).int else (out : Int)) = _
        rw [nI_get (by omega), mxI]
  · have e := geN hi h1
    subst e
    refine ⟨Bears.int (ifT h0 ?_), Bears.int h0.symm, trivial⟩
    have e1 : out = top (ints S) := hm.unique (top_mx _) fun v _ => by
      constructor
      · rintro ⟨j, hj, h⟩; exact ⟨_, ints_mem hj, h⟩
      · rintro ⟨y, hy, h⟩
        obtain ⟨j, hj, rfl⟩ := mem_ints hy
        exact ⟨j, hj, h⟩
    show (out : Int) = (top (ints l.list) : Int)
    rw [e1, top_congr hSU hmem]; rfl
/-- How much the numbers lack. -/
def lack (H : Nat → Nat) (n : Nat) (hs : List Nat) : Nat := ((List.range n).map fun i => H i - hs.getD i 0).sum
/-- A pass is over: the numbers are not too great; if none was changed, none is too small. -/
structure PassI (H : Nat → Nat) (l : List D) (n T : Nat) (again : Bool) (hs : List Nat) (out : Nat) : Prop where
  len : hs.length = n
  le : ∀ i, i < n → hs.getD i 0 ≤ H i
  ou : out ≤ T
  fin : again = false → (∀ i, i < n → hs.getD i 0 ≤ out) ∧ ∀ i, i < n → 1 ≤ hs.getD i 0 ∧ ∀ k, k < n → lessI (l.getD k .Z).int (l.getD i .Z).int = true → hs.getD k 0 + 1 ≤ hs.getD i 0
theorem sum_le {f g : Nat → Nat} : ∀ {n : Nat}, (∀ j, j < n → f j ≤ g j) → ((List.range n).map f).sum ≤ ((List.range n).map g).sum
  | 0, _ => Nat.le_refl _
  | n + 1, hle => by
    rw [List.range_succ, List.map_append, List.map_append, List.sum_append, List.sum_append]
    simp only [List.map_cons, List.map_nil, List.sum_cons, List.sum_nil, Nat.add_zero]
    have := sum_le (n := n) (f := f) (g := g) fun j hj => hle j (by omega)
    have := hle n (by omega)
    omega
theorem sum_lt {f g : Nat → Nat} {i : Nat} : ∀ {n : Nat}, (∀ j, j < n → f j ≤ g j) → i < n → f i < g i → ((List.range n).map f).sum < ((List.range n).map g).sum
  | 0, _, h, _ => absurd h (Nat.not_lt_zero _)
  | n + 1, hle, hi, hlt => by
    rw [List.range_succ, List.map_append, List.map_append, List.sum_append, List.sum_append]
    simp only [List.map_cons, List.map_nil, List.sum_cons, List.sum_nil, Nat.add_zero]
    by_cases e : i = n
    · subst e
      have := sum_le (n := i) (f := f) (g := g) fun j hj => hle j (by omega)
      omega
    · have := sum_lt (n := n) (f := f) (g := g) (fun j hj => hle j (by omega)) (by omega) hlt
      have := hle n (by omega)
      omega
theorem lack_set {H : Nat → Nat} {n i m : Nat} {hs : List Nat} (hl : hs.length = n) (hi : i < n) (h1 : hs.getD i 0 < m) (h2 : m ≤ H i) : lack H n (hs.set i m) < lack H n hs := by
  refine sum_lt (i := i) (fun j hj => ?_) hi ?_
  · show H j - (hs.set i m).getD j 0 ≤ H j - hs.getD j 0
    rw [nset_get (by omega)]
    split
    · rename_i e; subst e; omega
    · omega
  · show H i - (hs.set i m).getD i 0 < H i - hs.getD i 0
    rw [nset_get (by omega), if_pos rfl]; omega
/-- How far a pass is. -/
structure PassJ (H : Nat → Nat) (l : List D) (n T L0 i : Nat) (again : Bool) (hs : List Nat) (out : Nat) : Prop where
  len : hs.length = n
  le : ∀ i, i < n → hs.getD i 0 ≤ H i
  ou : out ≤ T
  lk : lack H n hs ≤ L0
  less : again = true → lack H n hs < L0
  fin : again = false → ∀ j, j < i → hs.getD j 0 ≤ out ∧ 1 ≤ hs.getD j 0 ∧ ∀ k, k < n → lessI (l.getD k .Z).int (l.getD j .Z).int = true → hs.getD k 0 + 1 ≤ hs.getD j 0
theorem PassI.start (H : Nat → Nat) (l : List D) (n T : Nat) : PassI H l n T true (List.replicate n 0) 0 :=
  ⟨by simp, fun i hi => by simp [List.getD_eq_getElem?_getD, List.getElem?_replicate, hi], Nat.zero_le _, fun h => by cases h⟩
theorem heightR_fun : FunOK cJo 100 Try.f32 sHgt := fun l hl _ => by
  simp only [InR] at hl
  refine ⟨fun h1 => ⟨Bears.int (ifF (bneT h1) rfl), Bears.int rfl, trivial⟩, fun h1 => ?_⟩
  have h0 : famE l.list.length = 0 := bneF h1
  have h64 := fam64 h0
  have hU : ∀ y, y ∈ ints l.list → InU y := fun y hy => by
    obtain ⟨i, hi, rfl⟩ := mem_ints hy
    exact hl.2 i hi
  clear h1
  obtain ⟨n, hn⟩ : ∃ n, n = l.list.length := ⟨_, rfl⟩
  obtain ⟨H, hH⟩ : ∃ H : Nat → Nat, H = fun i => hgt (ints l.list) (l.list.getD i .Z).int := ⟨_, rfl⟩
  have hHm : ∀ i, i < n → IsMx (fun v => ∃ k, k < n ∧ lessI (l.list.getD k .Z).int (l.list.getD i .Z).int = true ∧ v = H k + 1) 1 (H i) := fun i hi => by
    rw [hH]
    refine (hgt_mx hU (hU _ (ints_mem (by omega)))).same fun v => ?_
    constructor
    · rintro ⟨j, hj, hl, h⟩; exact ⟨_, ints_mem (by omega), hl, h⟩
    · rintro ⟨y, hy, hl, h⟩
      obtain ⟨j, hj, rfl⟩ := mem_ints hy
      exact ⟨j, by omega, hl, h⟩
  have hTm : IsMx (fun v => ∃ k, k < n ∧ v = H k) 0 (top (ints l.list)) := (top_mx _).same fun v => by
    rw [hH]
    constructor
    · rintro ⟨j, hj, h⟩; exact ⟨_, ints_mem (by omega), h⟩
    · rintro ⟨y, hy, h⟩
      obtain ⟨j, hj, rfl⟩ := mem_ints hy
      exact ⟨j, by omega, h⟩
  have hH65 : ∀ i, i < n → H i ≤ 65 := fun i hi => by rw [hH]; exact hgt_65 hU (hU _ (ints_mem (by omega)))
  refine ⟨⟨Int.natCast_nonneg _, Int.le_refl _, by show (l.list.length : Int) ≤ 1073741824; omega⟩, ?_⟩
  refine ⟨{ z : Bool × List Nat × Nat // PassI H l.list n (top (ints l.list)) z.1 z.2.1 z.2.2 }, 2, fun z => ([(7, .dat .bool (.B z.1.1)), (6, .dat i64 (.I z.1.2.2)), (5, .own 1 i64), (0, .dat (.slice u64) l)], [(1, .grow i64 (nI z.1.2.1))]), fun z => lack H n z.1.2.1 + (if z.1.1 = true then 1 else 0),
    ⟨(true, List.replicate n 0, 0), PassI.start _ _ _ _⟩, ⟨[(1, 0)], rfl, ⟨rfl, rfl, rfl, rfl, trivial⟩, ⟨gro ?_, trivial⟩⟩, ?_⟩
  · show List.replicate l.list.length (D0 i64) = nI (List.replicate n 0)
    rw [← hn, nI, List.map_replicate]; rfl
  intro z
  obtain ⟨⟨again, hs, out⟩, hP⟩ := z
  simp only at hP
  refine ⟨fun h1 => ?_, fun h1 => ?_⟩
  · replace h1 : again = true := h1
    subst h1
    obtain ⟨L0, hL0⟩ : ∃ L0, L0 = lack H n hs := ⟨_, rfl⟩
    refine ⟨{ z : Nat × Bool × List Nat × Nat // z.1 ≤ n ∧ PassJ H l.list n (top (ints l.list)) L0 z.1 z.2.1 z.2.2.1 z.2.2.2 }, 3, fun z => ([(8, .dat i64 (.I z.1.1)), (7, .dat .bool (.B z.1.2.1)), (6, .dat i64 (.I z.1.2.2.2)), (5, .own 2 i64), (0, .dat (.slice u64) l)], [(2, .grow i64 (nI z.1.2.2.1))]), fun z => n - z.1.1,
      ⟨(0, false, hs, out), Nat.zero_le _, hP.len, hP.le, hP.ou, (by show lack H n hs ≤ L0; omega), (fun h => by cases h), fun _ j hj => absurd hj (Nat.not_lt_zero _)⟩, ⟨[(2, 1)], rfl, ⟨rfl, rfl, rfl, rfl, rfl, trivial⟩, ⟨rfl, trivial⟩⟩, ?_⟩
    intro z
    obtain ⟨⟨i, ag, gs, ou⟩, hi, hJ⟩ := z
    simp only at hi hJ
    refine ⟨fun h1 => ?_, fun h1 => ?_⟩
    · have hlt : i < l.list.length := ltN h1
      clear h1
      refine ⟨{ z : Nat × Nat // z.1 ≤ n ∧ IsMx (fun v => ∃ k, k < z.1 ∧ lessI (l.list.getD k .Z).int (l.list.getD i .Z).int = true ∧ v = gs.getD k 0 + 1) 1 z.2 }, 3, fun z => ([(10, .dat i64 (.I z.1.1)), (9, .dat i64 (.I z.1.2)), (8, .dat i64 (.I i)), (7, .dat .bool (.B ag)), (6, .dat i64 (.I ou)), (5, .own 2 i64), (0, .dat (.slice u64) l)], [(2, .grow i64 (nI gs))]), fun z => n - z.1.1,
        ⟨(0, 1), Nat.zero_le _, .none fun v ⟨k, h, _⟩ => absurd h (Nat.not_lt_zero _)⟩, ⟨[], rfl, ⟨rfl, rfl, rfl, rfl, rfl, rfl, rfl, trivial⟩, ⟨rfl, trivial⟩⟩, ?_⟩
      intro z
      obtain ⟨⟨k, m⟩, hk, hM⟩ := z
      simp only at hk hM
      refine ⟨fun h1 => ?_, fun h1 => ?_⟩
      · have hkl : k < l.list.length := ltN h1
        clear h1
        have g1 : ∀ a : Nat, (0 : Int) ≤ (a : Int) := fun a => Int.natCast_nonneg a
        have g2 : (k : Int) < (l.list.length : Int) := Int.ofNat_lt.2 hkl
        have g3 : (i : Int) < (l.list.length : Int) := Int.ofNat_lt.2 hlt
        have g4 : 0 ≤ (k : Int) ∧ (k : Int) < ((nI gs).length : Int) := by rw [nI_len, hJ.len]; omega
        refine ⟨⟨g1 k, g2⟩, ⟨g1 i, g3⟩, fun _ => ⟨g1 k, g2⟩, fun _ => ⟨g1 i, g3⟩, by kernel_rfl, fun h2 => ?_, fun h2 => ?_⟩
        · replace h2 : lessI (l.list.getD k .Z).int (l.list.getD i .Z).int = true := h2
          refine ⟨g4, ⟨(k + 1, max m (gs.getD k 0 + 1)), by omega, hM.add fun v => ?_⟩, ⟨[], rfl, ⟨slot (i64_1 (n := k) (by omega)), slot ?_, rfl, rfl, rfl, rfl, rfl, trivial⟩, ⟨rfl, trivial⟩⟩, by show n - (k + 1) < n - k; omega⟩
          · constructor
            · rintro ⟨j, hj, hl, h⟩
              rcases Nat.lt_or_eq_of_le (Nat.le_of_lt_succ hj) with e | e
              · exact .inl ⟨j, e, hl, h⟩
              · subst e; exact .inr h
            · rintro (⟨j, hj, hl, h⟩ | h)
              · exact ⟨j, by omega, hl, h⟩
              · exact ⟨k, by omega, h2, h⟩
          · show (if IntKind.i64.wrap (((nI gs).getD k .Z).int + 1) > (m : Int) then IntKind.i64.wrap (((nI gs).getD k .Z).int + 1) else (m : Int)) = _
            have b1 := hJ.le k (by omega)
            have b2 := hH65 k (by omega)
            rw [nI_get (by rw [hJ.len]; omega), i64_1 (by omega), mxI]
        · replace h2 : lessI (l.list.getD k .Z).int (l.list.getD i .Z).int = false := h2
          refine ⟨⟨(k + 1, m), by omega, hM.same fun v => ?_⟩, ⟨[], rfl, ⟨slot (i64_1 (n := k) (by omega)), rfl, rfl, rfl, rfl, rfl, rfl, trivial⟩, ⟨rfl, trivial⟩⟩, by show n - (k + 1) < n - k; omega⟩
          constructor
          · rintro ⟨j, hj, hl, h⟩
            rcases Nat.lt_or_eq_of_le (Nat.le_of_lt_succ hj) with e | e
            · exact ⟨j, e, hl, h⟩
            · subst e; rw [h2] at hl; cases hl
          · rintro ⟨j, hj, hl, h⟩
            exact ⟨j, by omega, hl, h⟩
      · have e : k = n := by have := geN (i := k) (n := l.list.length) (by omega) h1; omega
        rw [e] at hM
        clear h1
        have hin : i < n := by omega
        have hm1 := hM.lo
        have hmH : m ≤ H i := by
          rcases hM.is with h | ⟨k', hk', hl', h⟩
          · have := (hHm i hin).lo; omega
          · have h3 := (hHm i hin).up _ ⟨k', hk', hl', rfl⟩
            have h4 := hJ.le k' hk'
            omega
        have hiT : H i ≤ top (ints l.list) := hTm.up _ ⟨i, hin, rfl⟩
        have g5 : 0 ≤ (i : Int) ∧ (i : Int) < ((nI gs).length : Int) := by rw [nI_len, hJ.len]; omega
        have hgi : ((nI gs).getD i .Z).int = (gs.getD i 0 : Nat) := nI_get (by rw [hJ.len]; omega)
        have hst : (nI gs).set i (D.puts i64 ((nI gs).getD i .Z) [] (.I (m : Int))) = nI (gs.set i m) := by rw [D.puts_nil, nI_set]
        refine ⟨g5, fun h2 => ⟨g5, ?_, ?_⟩, fun h2 => ⟨g5, ?_⟩⟩
        · show 0 ≤ (i : Int) ∧ (i : Int) < (((nI gs).set i (D.puts i64 ((nI gs).getD i .Z) [] (.I (m : Int)))).length : Int)
          rw [List.length_set]; exact g5
        · replace h2 : ltB ((nI gs).getD i .Z).int (m : Int) = true := h2
          rw [hgi] at h2
          simp only [ltB_true] at h2
          have hlk := lack_set hJ.len hin (m := m) (by omega) hmH
          have hl0 := hJ.lk
          have hou := hJ.ou
          refine ⟨⟨(i + 1, true, gs.set i m, max ou m), hin, ⟨by simpa using hJ.len, fun a ha => ?_, by show max ou m ≤ _; omega, by show lack H n (gs.set i m) ≤ L0; omega, fun _ => by show lack H n (gs.set i m) < L0; omega, fun h => (by cases h)⟩⟩, ⟨[], rfl, ⟨slot (i64_1 (n := i) (by omega)), rfl, slot ?_, rfl, rfl, trivial⟩, ⟨gro hst, trivial⟩⟩, by show n - (i + 1) < n - i; omega⟩
          · show (gs.set i m).getD a 0 ≤ H a
            rw [nset_get (by rw [hJ.len]; omega)]
            split
            · rename_i e; subst e; exact hmH
            · exact hJ.le a ha
          · show (if (((nI gs).set i (D.puts i64 ((nI gs).getD i .Z) [] (.I (m : Int)))).getD i .Z).int > (ou : Int) then (((nI gs).set i (D.puts i64 ((nI gs).getD i .Z) [] (.I (m : Int)))).getD i .Z).int else (ou : Int)) = _
            rw [hst, nI_get (by rw [List.length_set, hJ.len]; omega), nset_get (by rw [hJ.len]; omega), if_pos rfl, mxI]
        · replace h2 : ltB ((nI gs).getD i .Z).int (m : Int) = false := h2
          rw [hgi] at h2
          simp only [ltB_false] at h2
          have hou := hJ.ou
          have hle := hJ.le i hin
          refine ⟨⟨(i + 1, ag, gs, max ou (gs.getD i 0)), hin, ⟨hJ.len, hJ.le, by show max ou (gs.getD i 0) ≤ _; omega, hJ.lk, hJ.less, fun hag a ha => ?_⟩⟩, ⟨[], rfl, ⟨slot (i64_1 (n := i) (by omega)), rfl, slot ?_, rfl, rfl, trivial⟩, ⟨rfl, trivial⟩⟩, by show n - (i + 1) < n - i; omega⟩
          · show gs.getD a 0 ≤ max ou (gs.getD i 0) ∧ _
            rcases Nat.lt_or_eq_of_le (Nat.le_of_lt_succ ha) with e | e
            · obtain ⟨q1, q2⟩ := hJ.fin hag a e
              exact ⟨Nat.le_trans q1 (Nat.le_max_left _ _), q2⟩
            · have hmi : m ≤ gs.getD i 0 := Int.ofNat_le.1 h2
              have e' : a = i := e
              rw [e']
              exact ⟨Nat.le_max_right _ _, Nat.le_trans hm1 hmi, fun k' hk' hl' => Nat.le_trans (hM.up _ ⟨k', hk', hl', rfl⟩) hmi⟩
          · show (if ((nI gs).getD i .Z).int > (ou : Int) then ((nI gs).getD i .Z).int else (ou : Int)) = _
            rw [hgi, mxI]
    · have e : i = n := by have := geN (i := i) (n := l.list.length) (by omega) h1; omega
      rw [e] at hJ
      refine ⟨⟨(ag, gs, ou), hJ.len, hJ.le, hJ.ou, fun h => ⟨fun a ha => (hJ.fin h a ha).1, fun a ha => (hJ.fin h a ha).2⟩⟩, ⟨[(1, 2)], rfl, ⟨rfl, rfl, rfl, rfl, trivial⟩, ⟨rfl, trivial⟩⟩, ?_⟩
      show lack H n gs + (if ag = true then 1 else 0) < lack H n hs + (if true = true then 1 else 0)
      have := hJ.lk
      cases ag
      · simp only [Bool.false_eq_true, if_false, if_true]; omega
      · have := hJ.less rfl
        simp only [if_true]; omega
  · replace h1 : again = false := h1
    obtain ⟨f1, f2⟩ := hP.fin h1
    have ge : ∀ (q i : Nat), i < n → pcI (l.list.getD i .Z).int < q → H i ≤ hs.getD i 0 := by
      intro q
      induction q with
      | zero => intro i _ hq; exact absurd hq (Nat.not_lt_zero _)
      | succ q ih =>
        intro i hi hq
        rcases (hHm i hi).is with h | ⟨k, hk, hl, h⟩
        · have := (f2 i hi).1; omega
        · have h3 := less_pc (hU _ (ints_mem (by omega))) (hU _ (ints_mem (by omega))) hl
          have h4 := ih k hk (by omega)
          have h5 := (f2 i hi).2 k hk hl
          omega
    refine ⟨Bears.int (ifT h0 ?_), Bears.int h0.symm, trivial⟩
    show (out : Int) = (top (ints l.list) : Int)
    have h2 := hP.ou
    have h3 : top (ints l.list) ≤ out := by
      rcases hTm.is with h | ⟨k, hk, h⟩
      · omega
      · have := ge 65 k hk (by have := pcI_le (l.list.getD k .Z).int; omega)
        have := f1 k hk
        omega
    omega
end Go.Proofs.Ytohgdncglegjmaa
