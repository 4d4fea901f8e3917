/- Accounts of families of labels: closures. -/
import Derived.Test.YtohgdncglegjmaaWLd
namespace Go.Proofs.Ytohgdncglegjmaa
open Go Go.Vm
set_option linter.unusedSimpArgs false
set_option linter.unusedVariables false
set_option maxRecDepth 10000
def refsC : List (Nat × Value) := [(47, .map none), (50, .nilFunc)]
def mSo (B : Nat) : MSum := ⟨u64, [], fun xs _ => some (xs.length ≤ B), fun _ _ => .tup [], fun xs _ => sortD xs⟩
def sCloB (B : Nat) : Sum := ⟨[.slice u64], fun
  | [l] => some ((cloR l.list).length ≤ B ∨ 256 < (cloR l.list).length)
  | _ => none, sClo.res⟩
noncomputable def cClo (B : Nat) : Ctx := ⟨tabL, refsC, [(33, sFam)], [(34, Try.f34), (36, Try.f36), (53, Try.f53), (35, Try.f35), (54, Try.f54)], keep, (55 + 1000000, .msum (mSo B)) :: mpsL⟩
theorem refsCOK : refsB Try.prog refsC = true := by kernel_rfl
theorem same_len {a b : List Int} (ha : a.Nodup) (hb : b.Nodup) (h : ∀ z, z ∈ a ↔ z ∈ b) : a.length = b.length :=
  ((List.perm_ext_iff_of_nodup ha hb).2 h).length_eq
theorem str_nodup {a : List Int} (h : Str a) : a.Nodup := List.Pairwise.imp (fun h => by omega) h
theorem clo_sort {l : List D} {R K : List Int} (hn : R.Nodup) (hm : ∀ y, y ∈ R ↔ y ∈ cloR l) (hp : K.Perm R) : sortI K = cloR l := by
  have h1 : (cloR l).Pairwise (· ≤ ·) := List.Pairwise.imp (fun h => by omega) (cloR_str l)
  refine (sorted_eq h1 ?_).symm
  exact ((List.perm_ext_iff_of_nodup (str_nodup (cloR_str l)) hn).2 fun z => (hm z).symm).trans hp.symm
theorem keys_perm {R : List Int} {s : List Nat} (hs : SeenI R.length s) (hall : ∀ k, k < R.length → k ∈ s) : (s.reverse.map fun k => R.getD k 0).Perm R :=
  ((List.reverse_perm s).map _).trans (hs.perm hall)
theorem nodup_le : ∀ {a b : List Int}, a.Nodup → (∀ x, x ∈ a → x ∈ b) → a.length ≤ b.length
  | [], b, _, _ => Nat.zero_le _
  | x :: a, b, hn, h => by
    have hx := h x (by simp)
    have hn := List.nodup_cons.1 hn
    have h1 := nodup_le (a := a) (b := b.erase x) hn.2 (fun y hy => (List.mem_erase_of_ne (fun e => by subst e; exact hn.1 hy)).2 (h y (by simp [hy])))
    rw [List.length_erase_of_mem hx] at h1
    have := List.length_pos_of_mem hx
    simp only [List.length_cons]; omega
theorem mem_len {S R : List Int} {k : Nat} {f : Nat → Int} (hn : S.Nodup) (h : ∀ y, y ∈ S ↔ y ∈ R ∨ ∃ j, j < k ∧ y = f j) : S.length ≤ R.length + k := by
  have h1 := nodup_le (b := R ++ (List.range k).map f) hn fun y hy => by
    rcases (h y).1 hy with h | ⟨j, hj, h⟩
    · exact List.mem_append_left _ h
    · exact List.mem_append_right _ (List.mem_map.2 ⟨j, by simpa using hj, h.symm⟩)
  simpa using h1
set_option maxHeartbeats 1000000 in
theorem clo_fun (B : Nat) : FunOK (cClo B) 100 Try.f10 (sCloB B) := fun l hl hpre => by
  replace hpre : (cloR l.list).length ≤ B ∨ 256 < (cloR l.list).length := hpre
  simp only [InR] at hl
  have hl := hl.1
  refine ⟨fun h1 => ?_, fun h1 => ?_⟩
  · replace h1 : famE l.list.length ≠ 0 := bneT h1
    have e := cloE_fam (l := l.list) h1
    exact ⟨Bears.same (eqSame (by rw [cloL_1 (by rw [e]; exact h1)])), Bears.int e.symm, trivial⟩
  have h0 : famE l.list.length = 0 := bneF h1
  refine ⟨{ z : Nat × List Int // z.1 ≤ l.list.length ∧ z.2.Nodup ∧ (∀ y, y ∈ z.2 ↔ y ∈ cloR (l.list.take z.1)) ∧ z.2.length ≤ 256 }, 5, fun z => ([(18, .dat i64 (.I z.1.1)), (17, .dat i64 (.I l.list.length)), (16, .dat (.slice u64) l), (5, .mp 4 u64 .bool)], [(4, .map u64 .bool (ents z.1.2))]), fun z => l.list.length - z.1.1,
    ⟨(0, []), by omega, by simp, fun y => (by simp [cloR]), by simp⟩, ⟨[(4, 1)], rfl, ⟨rfl, rfl, rfl, rfl, trivial⟩, ⟨rfl, trivial⟩⟩, ?_⟩
  intro z
  obtain ⟨⟨i, R⟩, hi, hn, hm, h256⟩ := z
  simp only at hi hn hm h256
  have h64 := fam64 h0
  refine ⟨fun h2 => ⟨ix (ltN h2), ?_⟩, fun h2 => ?_⟩
  · have hlt : i < l.list.length := ltN h2
    refine ⟨{ s : List Nat // SeenI R.length s }, 12, fun s => ([(5, .mit 10), (0, .yld 9), (1, .ptr 5 .ref [] .ref)],
      [(10, .iter 4 (ents R).length (ents R).length s.1), (9, .loop .ready), (7, .box (.slice u64) (.own 11 u64)), (11, .grow u64 (s.1.reverse.map fun k => .I (R.getD k 0))), (5, .box .ref (.mp 4 u64 .bool)), (4, .map u64 .bool (ents R))]), fun s => leftN R.length s.1,
      ⟨[], .nil⟩, ⟨[(11, 1000000)], rfl, ⟨rfl, rfl, rfl, trivial⟩, ⟨rfl, rfl, rfl, rfl, rfl, rfl, trivial⟩⟩, ?_⟩
    intro y
    obtain ⟨s, hs⟩ := y
    have hsl := hs.len
    have hkl : (s.reverse.map fun k => D.I (R.getD k 0)).length = s.length := by rw [List.length_map, List.length_reverse]
    refine ⟨fun k h3 h4 => ⟨fun _ => ⟨⟨rfl, h3⟩, ?_, fun h5 => (by cases h5), fun _ => ?_⟩, fun h5 => (by cases h5)⟩, fun hall => ⟨fun h5 => (by cases h5), fun _ => ?_⟩⟩
    · show (s.reverse.map fun k => D.I (R.getD k 0)).length + 1 ≤ 1073741824
      omega
    · have hk : k < R.length := by rw [ents_len] at h3; exact h3
      refine ⟨⟨k :: s, hs.add hk h4⟩, ⟨[(11, 13)], rfl, ⟨rfl, rfl, rfl, trivial⟩, ⟨rfl, rfl, rfl, gro ?_, rfl, rfl, trivial⟩⟩, leftN_lt hk h4⟩
      show (s.reverse.map fun k => D.I (R.getD k 0)) ++ [D.I ((ents R).getD k (.Z, .Z)).1.int] = ((k :: s).reverse.map fun k => D.I (R.getD k 0))
      rw [ents_at R k hk, List.reverse_cons, List.map_append]; rfl
    · have hall' : ∀ k, k < R.length → k ∈ s := fun k hk => hall k (by rw [ents_len]; exact hk) (by rw [ents_len]; exact hk)
      have hp := keys_perm hs hall'
      obtain ⟨K, hK⟩ : ∃ K, K = s.reverse.map fun k => R.getD k 0 := ⟨_, rfl⟩
      have hK2 : (s.reverse.map fun k => D.I (R.getD k 0)) = K.map D.I := by rw [hK, List.map_map]; rfl
      rw [← hK] at hp
      have hKl := hp.length_eq
      obtain ⟨x, hx⟩ : ∃ x, x = (l.list.getD i .Z).int := ⟨_, rfl⟩
      refine ⟨{ z : Nat × List Int // z.1 ≤ K.length ∧ z.2.Nodup ∧ ∀ y, y ∈ z.2 ↔ y ∈ R ∨ ∃ j, j < z.1 ∧ y = orI x (K.getD j 0) }, 13, fun z => ([(26, .dat i64 (.I z.1.1)), (25, .dat i64 (.I K.length)), (24, .own 12 u64), (7, .dat u64 (.I x)), (18, .dat i64 (.I i)), (17, .dat i64 (.I l.list.length)), (16, .dat (.slice u64) l), (5, .mp 4 u64 .bool)],
        [(12, .grow u64 (K.map D.I)), (4, .map u64 .bool (ents z.1.2))]), fun z => K.length - z.1.1,
        ⟨(0, R), by omega, hn, fun y => by simp⟩, ⟨[(12, 11)], rfl, ⟨rfl, slot (by rw [hK2]; simp), rfl, slot hx.symm, rfl, rfl, rfl, rfl, trivial⟩, ⟨gro hK2, rfl, trivial⟩⟩, ?_⟩
      intro z
      obtain ⟨⟨k, S⟩, hk, hSn, hSm⟩ := z
      simp only at hk hSn hSm
      have hKat : ∀ j, j < K.length → ((K.map D.I).getD j .Z).int = K.getD j 0 := fun j hj => by
        simp [List.getD_eq_getElem?_getD, List.getElem?_eq_getElem hj]
      have hSl : S.length ≤ R.length + k := mem_len hSn hSm
      refine ⟨fun h5 => ⟨?_, ?_⟩, fun h5 => ?_⟩
      · have hk' : k < K.length := ltN h5
        show 0 ≤ (k : Int) ∧ (k : Int) < ((K.map D.I).length : Int)
        rw [List.length_map]; omega
      · have hk' : k < K.length := ltN h5
        have hmp : some (VO.map u64 .bool (mPut (.I (orI x ((K.map D.I).getD k .Z).int)) (.B true) (ents S))) = some (VO.map u64 .bool (ents (addI S (orI x (K.getD k 0))))) := by rw [hKat k hk', ents_add]
        refine ⟨⟨(k + 1, addI S (orI x (K.getD k 0))), hk', addI_nodup hSn, fun y => ?_⟩, ⟨[], rfl, ⟨slot (i64_1 (n := k) (by omega)), rfl, rfl, rfl, rfl, rfl, rfl, rfl, trivial⟩, ⟨rfl, hmp, trivial⟩⟩, stepLt hk'⟩
        rw [mem_addI, hSm]
        constructor
        · rintro ((h | ⟨j, hj, h⟩) | h)
          · exact .inl h
          · exact .inr ⟨j, by omega, h⟩
          · exact .inr ⟨k, by omega, h⟩
        · rintro (h | ⟨j, hj, h⟩)
          · exact .inl (.inl h)
          · rcases Nat.lt_or_eq_of_le (Nat.le_of_lt_succ hj) with e | e
            · exact .inl (.inr ⟨j, e, h⟩)
            · subst e; exact .inr h
      have hend : k = K.length := geN hk h5
      subst hend
      have hmp : mPut (.I x) (.B true) (ents S) = ents (addI S x) := ents_add S x
      have hnx := addI_nodup (k := x) hSn
      have hmx : ∀ y, y ∈ addI S x ↔ y ∈ cloR (l.list.take (i + 1)) := fun y => by
        rw [mem_addI, hSm, cloR_take _ hlt, mem_stepC, ← hm, ← hx]
        constructor
        · rintro ((h | ⟨j, hj, h⟩) | h)
          · exact .inr (.inl h)
          · refine .inr (.inr ⟨K.getD j 0, ?_, by rw [h, orI_comm]⟩)
            rw [← hm, ← hp.mem_iff, List.getD_eq_getElem?_getD, List.getElem?_eq_getElem hj]
            exact List.getElem_mem hj
          · exact .inl h
        · rintro (h | h | ⟨y', hy', h⟩)
          · exact .inr h
          · exact .inl (.inl h)
          · rw [← hm, ← hp.mem_iff] at hy'
            obtain ⟨j, hj, e⟩ := List.getElem_of_mem hy'
            exact .inl (.inr ⟨j, hj, by rw [h, orI_comm, List.getD_eq_getElem?_getD, List.getElem?_eq_getElem hj, e]; rfl⟩)
      have hlx := same_len hnx (str_nodup (cloR_str _)) hmx
      have hal := addI_len (R := S) (k := x)
      refine ⟨?_, fun h6 => ?_, fun h6 => ?_⟩
      · show (mPut (.I x) (.B true) (ents S)).length ≤ 9223372036854775807
        rw [hmp, ents_len]; omega
      · replace h6 : ltB 256 ((mPut (.I x) (.B true) (ents S)).length : Int) = true := h6
        rw [hmp, ents_len] at h6
        simp only [ltB_true] at h6
        have e : cloE l.list = 6 := cloE_big h0 (i := i + 1) (by omega)
        exact ⟨Bears.same (eqSame (by rw [cloL_1 (by rw [e]; decide)])), Bears.int e.symm, trivial⟩
      · replace h6 : ltB 256 ((mPut (.I x) (.B true) (ents S)).length : Int) = false := h6
        rw [hmp, ents_len] at h6
        simp only [ltB_false] at h6
        have hmp' : some (VO.map u64 .bool (mPut (.I x) (.B true) (ents S))) = some (VO.map u64 .bool (ents (addI S x))) := by rw [hmp]
        exact ⟨⟨(i + 1, addI S x), hlt, hnx, hmx, by show (addI S x).length ≤ 256; omega⟩, ⟨[], rfl, ⟨slot (i64_1 (n := i) (by omega)), rfl, rfl, rfl, trivial⟩, ⟨hmp', trivial⟩⟩, stepLt hlt⟩
  · refine ⟨{ s : List Nat // SeenI R.length s }, 13, fun s => ([(5, .mit 11), (0, .yld 10), (1, .ptr 5 .ref [] .ref)],
      [(11, .iter 4 (ents R).length (ents R).length s.1), (10, .loop .ready), (8, .box (.slice u64) (.own 12 u64)), (12, .grow u64 (s.1.reverse.map fun k => .I (R.getD k 0))), (5, .box .ref (.mp 4 u64 .bool)), (4, .map u64 .bool (ents R))]), fun s => leftN R.length s.1,
      ⟨[], .nil⟩, ⟨[(12, 1000000)], rfl, ⟨rfl, rfl, rfl, trivial⟩, ⟨rfl, rfl, rfl, rfl, rfl, rfl, trivial⟩⟩, ?_⟩
    have e := geN hi h2
    subst e
    rw [List.take_length] at hm
    have hlen := same_len hn (str_nodup (cloR_str l.list)) hm
    have hE := cloE_ok h0 (by omega)
    intro y
    obtain ⟨s, hs⟩ := y
    have hsl := hs.len
    have hkl : (s.reverse.map fun k => D.I (R.getD k 0)).length = s.length := by rw [List.length_map, List.length_reverse]
    refine ⟨fun k h3 h4 => ⟨fun _ => ⟨⟨rfl, h3⟩, ?_, fun h5 => (by cases h5), fun _ => ?_⟩, fun h5 => (by cases h5)⟩, fun hall => ⟨fun h5 => (by cases h5), fun _ => ⟨?_, Bears.same (eqSame ?_), Bears.int hE.symm, trivial⟩⟩⟩
    · show (s.reverse.map fun k => D.I (R.getD k 0)).length + 1 ≤ 1073741824
      omega
    · have hk : k < R.length := by rw [ents_len] at h3; exact h3
      refine ⟨⟨k :: s, hs.add hk h4⟩, ⟨[(12, 14)], rfl, ⟨rfl, rfl, rfl, trivial⟩, ⟨rfl, rfl, rfl, gro ?_, rfl, rfl, trivial⟩⟩, leftN_lt hk h4⟩
      show (s.reverse.map fun k => D.I (R.getD k 0)) ++ [D.I ((ents R).getD k (.Z, .Z)).1.int] = ((k :: s).reverse.map fun k => D.I (R.getD k 0))
      rw [ents_at R k hk, List.reverse_cons, List.map_append]; rfl
    · show (s.reverse.map fun k => D.I (R.getD k 0)).length ≤ B
      rcases hpre with h | h <;> omega
    · have hall' : ∀ k, k < R.length → k ∈ s := fun k hk => hall k (by rw [ents_len]; exact hk) (by rw [ents_len]; exact hk)
      show D.L (sortD (s.reverse.map fun k => D.I (R.getD k 0))) = D.L (cloL l.list)
      have e : ints (s.reverse.map fun k => D.I (R.getD k 0)) = s.reverse.map fun k => R.getD k 0 := by
        rw [ints, List.map_map]; rfl
      rw [cloL_0 hE, sortD, e, clo_sort hn hm (keys_perm hs hall')]
def sTrue : Sum := ⟨[], fun _ => none, fun
  | [] => .dat .bool (.B true)
  | _ => .und⟩
def cAw : Ctx := ⟨tabL, refsL, [(14, sJoin), (10, sCloB 12), (12, sSameI u64)], [], keep, mpsL⟩
theorem keyIs {s : Nat} {b : Bool} (h : b = true) : KeyCond [(s, true, b)] := h
theorem awake_fun : FunOK cAw 60 Try.f9 sTrue := fun _ => by
  refine ⟨Or.inl (Nat.le_of_ble_eq_true (by kernel_rfl)), keyIs (by kernel_rfl), trivial, Bears.bool (by kernel_rfl)⟩
end Go.Proofs.Ytohgdncglegjmaa
