/- Accounts of stores: which are right, the program. -/
import Derived.Test.YtpfpgjkbnjnjnaaWTb
namespace Go.Proofs.Ytpfpgjkbnjnjnaa
open Go Go.Vm Rg
set_option linter.unusedSimpArgs false
set_option linter.unusedVariables false
set_option maxRecDepth 10000
def labL (l : List D) (i : Nat) : Int := ((l.getD i .Z).nth 0).int
def dupL (l : List D) : Bool := (List.range l.length).any fun i => (List.range i).any fun k => labL l k == labL l i
def sLabels : Sum := ⟨[.slice ringS], fun _ => none, fun
  | [l] => .dat i64 (.I (if dupL l.list = true then 8 else 0))
  | _ => .und⟩
theorem labels_fun : FunOK c0T 60 Try.f64 sLabels := fun l hl _ => by
  have hlen : l.list.length ≤ 9223372036854775807 := by simp only [InR] at hl; exact hl.1
  refine ⟨{ i : Nat // i ≤ l.list.length ∧ ∀ k, k < i → ((List.range k).any fun q => labL l.list q == labL l.list k) = false }, 1, fun i => ([(9, .dat i64 (.I i.1)), (8, .dat i64 (.I l.list.length)), (7, .dat (.slice ringS) l), (3, .mp 0 u64 .bool)], [(0, .map u64 .bool (ents ((List.range i.1).map (labL l.list))))]), fun i => l.list.length - i.1,
    ⟨0, by omega, fun k h => by omega⟩, ⟨[], rfl, ⟨rfl, rfl, rfl, rfl, trivial⟩, ⟨rfl, trivial⟩⟩, ?_⟩
  intro x
  obtain ⟨i, hi, h0⟩ := x
  refine ⟨fun h1 => ?_, fun h1 => Bears.int ?_⟩
  · have hk : i < l.list.length := ltN h1
    have hc : ((List.range i).map (labL l.list)).contains (labL l.list i) = (List.range i).any fun q => labL l.list q == labL l.list i := by
      rw [List.contains_eq_any_beq, List.any_map]
      congr 1; funext q
      show (labL l.list i == labL l.list q) = (labL l.list q == labL l.list i)
      rw [Bool.eq_iff_iff, beq_iff_eq, beq_iff_eq]; exact eq_comm
    refine ⟨ix hk, fun h2 => Bears.int ?_, fun h2 => ?_⟩
    all_goals replace h2 : (mGet (D0 .bool) (labL l.list i) (ents ((List.range i).map (labL l.list)))).bool = _ := h2
    all_goals rw [ents_get, hc] at h2
    · show 8 = if dupL l.list = true then 8 else 0
      rw [if_pos]
      exact anyR_at hk h2
    · refine ⟨⟨i + 1, hk, upto h0 h2⟩, ⟨[], rfl, ⟨slot (i64_1 (n := i) (by omega)), rfl, rfl, rfl, trivial⟩, ⟨congrArg (fun es => some (VO.map u64 .bool es)) ?_, trivial⟩⟩, stepLt hk⟩
      show mPut (.I (labL l.list i)) (.B true) (ents ((List.range i).map (labL l.list))) = ents ((List.range (i + 1)).map (labL l.list))
      rw [ents_put (by rw [hc]; exact h2), List.range_succ, List.map_append]; rfl
  · have he : i = l.list.length := geN hi h1
    show 0 = if dupL l.list = true then 8 else 0
    rw [if_neg]
    rw [dupL, anyR_no fun k hk => h0 k (by omega)]; simp
theorem labels_ok : SumOK Try.prog 64 sLabels := sumOK_of_vc (c := c0T) (ctxT .nil) mixed Try.func64 rfl (by decide) @labels_fun
def sNum : Sum := ⟨[storeS], fun
  | [s] => some (okRgs s)
  | _ => none, fun
  | [s] => .dat i64 (.I (numE s))
  | _ => .und⟩
def cCk : Ctx := ⟨tabT, refsT, [(63, Rg.sCheck), (64, sLabels), (65, sNum)], [], keep, mpsT⟩
theorem checkT_fun : FunOK cCk 100 Try.f42 sChk := fun s hs _ => by
  refine ⟨fun h1 => Bears.int ?_, fun h1 => ?_⟩
  · replace h1 : ltB 8 (nG s : Int) = true := h1
    simp only [ltB_true] at h1
    exact (st_6 (by omega)).symm
  replace h1 : ltB 8 (nG s : Int) = false := h1
  have h8 : ¬ 8 < nG s := by simp only [ltB_false] at h1; omega
  clear h1
  refine ⟨{ i : Nat // i ≤ nG s ∧ ∀ k, k < i → chG s k = 0 }, 1, fun i => ([(14, .dat i64 (.I i.1)), (13, .dat i64 (.I (nG s))), (12, .dat (.slice ringS) (s.nth 0)), (1, .ptr 0 storeS [] storeS)], [(0, .box storeS (.dat storeS s))]), fun i => nG s - i.1,
    ⟨0, by omega, fun k h => by omega⟩, ⟨[], rfl, ⟨rfl, rfl, rfl, rfl, trivial⟩, ⟨rfl, trivial⟩⟩, ?_⟩
  intro x
  obtain ⟨i, hi, h0⟩ := x
  refine ⟨fun h1 => ?_, fun h1 => ?_⟩
  · have hk : i < nG s := ltN h1
    refine ⟨ix hk, fun h2 => Bears.int ?_, fun h2 => ?_⟩
    · replace h2 : (chG s i != 0) = true := h2
      exact (st_ring h8 hk h0 (by simpa using h2)).symm
    · replace h2 : (chG s i != 0) = false := h2
      exact ⟨⟨i + 1, hk, upto h0 (by simpa using h2)⟩, ⟨[], rfl, ⟨slot (i64_1 (n := i) (by omega)), rfl, rfl, rfl, trivial⟩, ⟨rfl, trivial⟩⟩, stepLt hk⟩
  · have he : i = nG s := geN hi h1
    have hok : okRgs s := ⟨by omega, fun k hk => h0 k (by omega)⟩
    have h0 : ∀ k, k < nG s → chG s k = 0 := hok.2
    have hdd : dupL (rgs s) = dupG s := rfl
    clear h1
    refine ⟨fun h1 => Bears.int ?_, fun h1 => ⟨fun h2 => Bears.int ?_, fun h2 => ⟨hok, Bears.int ?_⟩⟩⟩
    all_goals replace h1 : ((if dupL (rgs s) = true then 8 else (0 : Int)) != 0) = _ := h1
    all_goals rw [hdd] at h1
    · have hd : dupG s = true := by
        cases hd : dupG s with
        | true => rfl
        | false => rw [hd] at h1; simp at h1
      show (if dupL (rgs s) = true then 8 else (0 : Int)) = stE s
      rw [st_8 h8 h0 hd, hdd, if_pos hd]
    all_goals have hd : dupG s = false := (by
      cases hd : dupG s with
      | false => rfl
      | true => rw [hd] at h1; simp at h1)
    all_goals replace h2 : rngG s = _ := h2
    · exact (st_2 h8 h0 hd h2).symm
    · exact (st_num h8 h0 hd h2).symm
theorem okRgs_len {s : D} (h : okRgs s) : 0 ≤ ((rgs s).length : Int) ∧ ((rgs s).length : Int) ≤ ((rgs s).length : Int) ∧ ((rgs s).length : Int) ≤ 1073741824 := by
  have : (rgs s).length ≤ 8 := h.1
  omega
/-- The lists of the rings, filled in up to i. -/
def lsD (s : D) (i : Nat) : List D := ((lsts s).take i).map D.L ++ List.replicate (nG s - i) (D0 (.slice storedS))
theorem lsD_0 (s : D) : List.replicate (((rgs s).length : Int)).toNat (D0 (.slice storedS)) = lsD s 0 := by
  rw [Int.toNat_natCast]; simp [lsD, nG]
theorem lsD_set {s : D} {i : Nat} (hi : i < nG s) : (lsD s i).set i (.L (evs (rgAt s i))) = lsD s (i + 1) := by
  have hl : (lsts s).length = nG s := by rw [lsts, List.length_map]; rfl
  have hp : (((lsts s).take i).map D.L).length = i := by rw [List.length_map, List.length_take]; omega
  obtain ⟨m, hm⟩ : ∃ m, nG s - i = m + 1 := ⟨nG s - i - 1, by omega⟩
  have hm2 : nG s - (i + 1) = m := by omega
  rw [lsD, lsD, hm, hm2, List.set_append_right _ _ (by omega), hp, Nat.sub_self, List.replicate_succ, List.set_cons_zero, List.take_add_one, List.getElem?_eq_getElem (by omega)]
  simp [lsts, rgAt, List.getD_eq_getElem?_getD]
  rw [List.getElem?_eq_getElem (by exact hi)]; rfl
theorem lsD_all (s : D) : lsD s (nG s) = (lsts s).map D.L := by
  rw [lsD, Nat.sub_self, List.take_of_length_le (by rw [lsts, List.length_map]; exact Nat.le_refl _)]; simp
theorem lsD_len {s : D} {i : Nat} (hi : i ≤ nG s) : (lsD s i).length = nG s := by
  have hl : (lsts s).length = nG s := by rw [lsts, List.length_map]; rfl
  rw [lsD, List.length_append, List.length_map, List.length_take, List.length_replicate]; omega
theorem any_mrg {s : D} {p : D → Bool} : (mrg s).any p = (flat (lsts s)).any p := by
  rw [Bool.eq_iff_iff, List.any_eq_true, List.any_eq_true]
  exact ⟨fun ⟨x, h1, h2⟩ => ⟨x, (srt_perm _).mem_iff.1 h1, h2⟩, fun ⟨x, h1, h2⟩ => ⟨x, (srt_perm _).mem_iff.2 h1, h2⟩⟩
theorem adjB_ne {l : List D} {k : Nat} (h : adjB l k = false) : keyO (l.getD (k + 1) .Z) ≠ keyO (l.getD k .Z) := by
  rw [adjB, Bool.or_eq_false_iff, beq_eq_false_iff_ne] at h
  exact h.1
theorem adj_strict {l : List D} (hs : SortK keyO l) (h : ∀ k, k + 1 < l.length → adjB l k = false) : Strict keyO l :=
  strict_of_adj fun i hi => by
    have h1 := sortK_le hs (i := i) (j := i + 1) (by omega) hi
    have h2 := adjB_ne (h i hi)
    omega
theorem adjL_no {l : List D} (h : adjL l = false) : ∀ k, k + 1 < l.length → adjB l k = false := fun k hk => by
  rw [adjL, List.any_eq_false] at h
  have := h k (by simp; omega)
  simpa using this
theorem adj_done {s : D} {Y : List D} (hp : Y.Perm (flat (lsts s))) (hs : SortK keyO Y) (h : ∀ k, k + 1 < Y.length → adjB Y k = false) : adjL (mrg s) = false := by
  have h1 := strict_nodup (adj_strict hs h)
  have e : Y = mrg s := srt_eq ((hp.map keyO).nodup_iff.1 h1) hp hs
  rw [← e]
  exact anyR_no fun k hk => h k (by omega)
theorem mrg_strict {s : D} (h : adjL (mrg s) = false) : Strict keyO (mrg s) := adj_strict (srt_sorted _) (adjL_no h)
theorem flat_nodup {s : D} (h : adjL (mrg s) = false) : ((flat (lsts s)).map keyO).Nodup := ((srt_perm _).map keyO).nodup_iff.1 (strict_nodup (mrg_strict h))
theorem adj_pre {s : D} {Y : List D} {ls : List (List D)} (hM : Mrg keyO (lsts s) Y ls) (ha : adjL (mrg s) = false) : ∀ k, k + 1 < Y.length → adjB Y k = false := by
  have hw := hM.whole
  have e : Y ++ srt keyO (flat ls) = mrg s := srt_eq (flat_nodup ha) hw.2 hw.1
  intro k hk
  have h1 := adjL_no ha k (by rw [← e, List.length_append]; omega)
  rw [← e] at h1
  rw [adjB] at h1 ⊢
  rw [getD_app_l hk, getD_app_l (by omega)] at h1
  exact h1
theorem adj_last (Y : List D) (x : D) (hne : Y ≠ []) : adjB (Y ++ [x]) (Y.length - 1) = ((x.nth 1).int == ((Y.getLastD (D0 storedS)).nth 1).int || ltB (x.nth 2).int ((Y.getLastD (D0 storedS)).nth 2).int) := by
  have hpos := List.length_pos_iff.2 hne
  have e1 : Y.length - 1 + 1 = Y.length := by omega
  have e2 : (Y ++ [x]).getD Y.length .Z = x := getD_app_r
  have e3 : (Y ++ [x]).getD (Y.length - 1) .Z = Y.getLastD (D0 storedS) := by
    rw [getD_app_l (by omega), List.getD_eq_getElem?_getD, List.getElem?_eq_getElem (by omega), List.getLastD_eq_getLast?, List.getLast?_eq_getElem?, List.getElem?_eq_getElem (by omega)]; rfl
  rw [adjB, e1, e2, e3]
theorem adj_bad {s : D} (hok : okRgs s) {Y : List D} {x : D} {ls : List (List D)} (hM : Mrg keyO (lsts s) (Y ++ [x]) ls) (h : ((x.nth 1).int == ((Y.getLastD (D0 storedS)).nth 1).int || ltB (x.nth 2).int ((Y.getLastD (D0 storedS)).nth 2).int) = true) : adjL (mrg s) = true := by
  cases ha : adjL (mrg s) with
  | true => rfl
  | false =>
    by_cases hne : Y = []
    · subst hne
      have hx := flat_pos hok (x := x) (hM.perm.mem_iff.1 (by simp))
      have h1 : ((x.nth 1).int == 0 || ltB (x.nth 2).int 0) = true := h
      rw [Bool.or_eq_true, beq_iff_eq, ltB_true] at h1
      have : keyO x = (x.nth 1).int := rfl
      omega
    · have hpos := List.length_pos_iff.2 hne
      have := adj_pre hM ha (Y.length - 1) (by rw [List.length_append, List.length_singleton]; omega)
      rw [adj_last Y x hne, h] at this
      cases this
theorem adj_snoc {Y : List D} {x : D} (hi : ∀ k, k + 1 < Y.length → adjB Y k = false) (h : ((x.nth 1).int == ((Y.getLastD (D0 storedS)).nth 1).int || ltB (x.nth 2).int ((Y.getLastD (D0 storedS)).nth 2).int) = false) : ∀ k, k + 1 < (Y ++ [x]).length → adjB (Y ++ [x]) k = false := by
  intro k hk
  rw [List.length_append, List.length_singleton] at hk
  rcases Nat.lt_or_ge (k + 1) Y.length with h1 | h1
  · have h2 := hi k h1
    rw [adjB] at h2 ⊢
    rw [getD_app_l h1, getD_app_l (by omega)]; exact h2
  · have hne : Y ≠ [] := fun e => by subst e; simp at hk
    have e : k = Y.length - 1 := by omega
    rw [e, adj_last Y x hne]; exact h
noncomputable def cNum : Ctx := ⟨tabT, refsT, [(75, sListP)], [(51, Try.f51), (74, Try.f74)], keep, mpsT⟩
set_option maxHeartbeats 2000000 in
theorem num_fun : FunOK cNum 200 Try.f65 sNum := fun s hs h => by
  replace h : okRgs s := h
  have h8 := h.1
  refine ⟨{ i : Nat // i ≤ nG s ∧ ∀ k, k < i → (evs (rgAt s k)).any (lateG s) = false }, 2, fun i => ([(15, .dat i64 (.I i.1)), (14, .dat i64 (.I (nG s))), (13, .dat (.slice ringS) (s.nth 0)), (2, .ptr 1 i64 [] i64), (1, .ptr 0 storeS [] storeS)], [(1, .box i64 (.dat i64 (.I 0))), (0, .box storeS (.dat storeS s))]), fun i => nG s - i.1,
    ⟨0, by omega, fun k h => by omega⟩, ⟨[], rfl, ⟨rfl, rfl, rfl, rfl, rfl, trivial⟩, ⟨rfl, rfl, trivial⟩⟩, ?_⟩
  intro x
  obtain ⟨i, hi, h0⟩ := x
  refine ⟨fun h1 => ?_, fun h1 => ?_⟩
  · have hk : i < nG s := ltN h1
    clear h1
    obtain ⟨r, hr⟩ : ∃ r, r = rgAt s i := ⟨_, rfl⟩
    have hc : chk r = 0 := hr ▸ h.2 i hk
    have e : (if chk (rgAt s i) ≠ 0 then [] else fromL (rgAt s i) 0 (fromN (rgAt s i) 0)) = evs r := by
      rw [← hr, if_neg (by simp [hc])]; exact fromL_zero (chk_bad hc)
    have hcl : (evs r).length ≤ 64 := by rw [evs_len]; exact cap64 hc
    refine ⟨ix hk, { j : Nat // j ≤ (evs r).length ∧ ∀ k, k < j → lateG s ((evs r).getD k .Z) = false }, 3, fun j => ([(26, .dat i64 (.I j.1)), (25, .dat i64 (.I (evs r).length)), (24, .dat (.slice storedS) (.L (evs r))), (15, .dat i64 (.I i)), (14, .dat i64 (.I (nG s))), (13, .dat (.slice ringS) (s.nth 0)), (2, .ptr 1 i64 [] i64), (1, .ptr 0 storeS [] storeS)], [(1, .box i64 (.dat i64 (.I 0))), (0, .box storeS (.dat storeS s))]), fun j => (evs r).length - j.1,
      ⟨0, by omega, fun k h => by omega⟩, ⟨[], rfl, ⟨rfl, slot ?_, slotD ?_, rfl, rfl, rfl, rfl, rfl, trivial⟩, ⟨rfl, rfl, trivial⟩⟩, ?_⟩
    · rw [← e]; rfl
    · rw [← e]; rfl
    intro x
    obtain ⟨j, hj, hl⟩ := x
    refine ⟨fun h1 => ?_, fun h1 => ?_⟩
    · have hkj : j < (evs r).length := ltN h1
      refine ⟨ix hkj, fun h2 => Bears.int ?_, fun h2 => ?_⟩
      all_goals replace h2 : lateG s ((evs r).getD j .Z) = _ := h2
      · show 2 = numE s
        have hx : (evs r).getD j .Z ∈ flat (lsts s) := by
          rw [evs_len] at hkj
          rw [evs_get hkj]; exact mem_flat.2 ⟨i, hk, j, by rw [← hr]; exact hkj, by rw [← hr]⟩
        rw [nu_2 (by rw [any_mrg]; exact List.any_eq_true.2 ⟨_, hx, h2⟩)]
      · exact ⟨⟨j + 1, hkj, upto hl h2⟩, ⟨[], rfl, ⟨slot (i64_1 (n := j) (by omega)), rfl, rfl, rfl, rfl, rfl, rfl, rfl, trivial⟩, ⟨rfl, rfl, trivial⟩⟩, stepLt hkj⟩
    · have hje : j = (evs r).length := geN hj h1
      exact ⟨⟨i + 1, hk, upto h0 (by rw [← hr]; exact any_no fun k hk => hl k (by omega))⟩, ⟨[], rfl, ⟨slot (i64_1 (n := i) (by omega)), rfl, rfl, rfl, rfl, trivial⟩, ⟨rfl, rfl, trivial⟩⟩, stepLt hk⟩
  · have he : i = nG s := geN hi h1
    clear h1
    have hw := okRgs_len h
    have hlate : (mrg s).any (lateG s) = false := by
      rw [any_mrg, List.any_eq_false]
      intro x hx
      obtain ⟨k, hk, j, hj, rfl⟩ := mem_flat.1 hx
      have h2 := h0 k (by omega)
      rw [List.any_eq_false] at h2
      rw [← evs_get hj]
      exact h2 _ (getD_mem (by rw [evs_len]; exact hj))
    refine ⟨hw, ?_⟩
    refine ⟨{ i : Nat // i ≤ nG s }, 6, fun i => ([(14, .dat i64 (.I i.1)), (13, .dat i64 (.I (nG s))), (12, .dat (.slice ringS) (s.nth 0)), (3, .own 5 (.slice storedS)), (0, .yld 4), (1, .ptr 3 (.slice ringS) [] (.slice ringS))],
      [(5, .grow (.slice storedS) (lsD s i.1)), (4, .loop .ready), (3, .box (.slice ringS) (.dat (.slice ringS) (s.nth 0))), (2, .box storedS (.dat storedS (List.getLastD [] (D0 storedS)))), (1, .box i64 (.dat i64 (.I 0))), (0, .box storeS (.dat storeS s))]), fun i => nG s - i.1,
      ⟨0, by omega⟩, ⟨[], rfl, ⟨rfl, rfl, rfl, rfl, rfl, rfl, trivial⟩, ⟨gro (lsD_0 s), rfl, rfl, rfl, rfl, rfl, trivial⟩⟩, ?_⟩
    intro x
    obtain ⟨i, hi⟩ := x
    refine ⟨fun h1 => ?_, fun h1 => ?_⟩
    · have hk2 : i < nG s := ltN h1
      clear h1
      have hlD : (lsD s i).length = nG s := lsD_len (by omega)
      have hc := h.2 i hk2
      have e : (if chk (rgAt s i) ≠ 0 then [] else fromL (rgAt s i) 0 (fromN (rgAt s i) 0)) = evs (rgAt s i) := by
        rw [if_neg (by simp [hc])]; exact fromL_zero (chk_bad hc)
      refine ⟨ix hk2, by show 0 ≤ (i : Int) ∧ (i : Int) < ((lsD s i).length : Int); omega, ⟨i + 1, hk2⟩, ⟨[], rfl, ⟨slot (i64_1 (n := i) (by omega)), rfl, rfl, rfl, rfl, rfl, trivial⟩, ⟨gro ?_, rfl, rfl, rfl, rfl, rfl, trivial⟩⟩, stepLt hk2⟩
      show (lsD s i).set i (D.puts (.slice storedS) ((lsD s i).getD i .Z) [] (.L (if chk (rgAt s i) ≠ 0 then [] else fromL (rgAt s i) 0 (fromN (rgAt s i) 0)))) = lsD s (i + 1)
      rw [D.puts_nil, e]; exact lsD_set hk2
    · have he : i = nG s := geN hi h1
      clear h1
      refine ⟨{ x : List D × List (List D) // Mrg keyO (lsts s) x.1 x.2 ∧ ∀ k, k + 1 < List.length x.1 → adjB x.1 k = false }, 6, fun x => ([(3, .own 5 (.slice storedS)), (0, .yld 4), (1, .ptr 3 (.slice ringS) [] (.slice ringS))],
        [(5, .grow (.slice storedS) (x.1.2.map D.L)), (4, .loop .ready), (3, .box (.slice ringS) (.dat (.slice ringS) (s.nth 0))), (2, .box storedS (.dat storedS (List.getLastD x.1.1 (D0 storedS)))), (1, .box i64 (.dat i64 (.I 0))), (0, .box storeS (.dat storeS s))]), fun x => (flat x.1.2).length,
        ⟨([], lsts s), .start (lsts_sorted h), fun k h => by simp at h⟩, ⟨[], rfl, ⟨rfl, rfl, rfl, trivial⟩, ⟨gro ((congrArg (lsD s) he).trans (lsD_all s)), rfl, rfl, rfl, rfl, rfl, trivial⟩⟩, ?_⟩
      intro x
      obtain ⟨⟨Y, ls⟩, hM, hinv⟩ := x
      simp only at hM hinv
      have hll : ls.length = nG s := by rw [hM.len, lsts, List.length_map]; rfl
      refine ⟨{ x : Nat × Int // x.1 ≤ ls.length ∧ Fst keyO ls x.1 x.2 }, 6, fun x => ([(30, .dat i64 (.I x.1.1)), (29, .dat i64 (.I (ls.map D.L).length)), (28, .own 5 (.slice storedS)), (6, .dat i64 (.I x.1.2)), (3, .own 5 (.slice storedS)), (0, .yld 4), (1, .ptr 3 (.slice ringS) [] (.slice ringS))],
        [(5, .grow (.slice storedS) (ls.map D.L)), (4, .loop .ready), (3, .box (.slice ringS) (.dat (.slice ringS) (s.nth 0))), (2, .box storedS (.dat storedS (List.getLastD Y (D0 storedS)))), (1, .box i64 (.dat i64 (.I 0))), (0, .box storeS (.dat storeS s))]), fun x => ls.length - x.1.1,
        ⟨(0, -1), by simp, .start ls⟩, ⟨[], rfl, ⟨rfl, rfl, rfl, rfl, rfl, rfl, rfl, trivial⟩, ⟨rfl, rfl, rfl, rfl, rfl, rfl, trivial⟩⟩, ?_⟩
      intro x
      obtain ⟨⟨i, f⟩, hi, hF⟩ := x
      simp only at hi hF
      have hml : (ls.map D.L).length = ls.length := List.length_map ..
      have f0 : ltB f 0 = false → 0 ≤ f := fun h => by simp only [ltB_false] at h; exact h
      have fb : ltB f 0 = false → 0 ≤ f ∧ f < ((ls.map D.L).length : Int) := fun h => by
        have h1 := (hF.some (f0 h)).1
        have h2 := f0 h
        omega
      have fl : ltB f 0 = false → ((ls.map D.L).getD f.toNat .Z).list = ls.getD f.toNat [] := fun h => mapL_get (by have := fb h; omega)
      have fn : ltB f 0 = false → 0 < (((ls.map D.L).getD f.toNat .Z).list.length : Int) := fun h => by
        rw [fl h]
        have := (hF.some (f0 h)).2.1
        have := List.length_pos_iff.2 this
        omega
      refine ⟨fun h1 => ?_, fun h1 => ?_⟩
      · have hk : i < ls.length := by have : i < (ls.map D.L).length := ltN h1; omega
        clear h1
        have gl : ((ls.map D.L).getD i .Z).list = ls.getD i [] := mapL_get hk
        refine ⟨(by show 0 ≤ (i : Int) ∧ (i : Int) < ((ls.map D.L).length : Int); omega), fun h1 => ⟨Int.le_refl 0, ltT (keyOne h1.2)⟩, fun h1 => ⟨(fb h1.1).1, (fb h1.1).2⟩, fun h1 => ⟨Int.le_refl 0, fn h1.1⟩, by kernel_rfl, fun h1 => ?_, fun h1 => ?_⟩
        all_goals replace h1 : (ltB 0 (((ls.map D.L).getD i .Z).list.length : Int) && (ltB f 0 || ltB (keyO (((ls.map D.L).getD i .Z).list.getD 0 .Z)) (keyO (((ls.map D.L).getD f.toNat .Z).list.getD 0 .Z)))) = _ := h1
        all_goals rw [gl] at h1
        · rw [Bool.and_eq_true, Bool.or_eq_true] at h1
          have hne : ls.getD i [] ≠ [] := fun e => by rw [e] at h1; simp at h1
          refine ⟨⟨(i + 1, (i : Int)), hk, hF.take hne ?_⟩, ⟨[], rfl, ⟨slot (i64_1 (n := i) (by omega)), rfl, rfl, rfl, rfl, rfl, rfl, trivial⟩, ⟨rfl, rfl, rfl, rfl, rfl, rfl, trivial⟩⟩, stepLt hk⟩
          by_cases hf : f < 0
          · exact .inl hf
          · rcases h1.2 with h2 | h2
            · simp only [ltB_true] at h2; exact .inl h2
            · rw [fl (by simp only [ltB_false]; omega)] at h2
              simp only [ltB_true] at h2; exact .inr h2
        · refine ⟨⟨(i + 1, f), hk, hF.skip ?_⟩, ⟨[], rfl, ⟨slot (i64_1 (n := i) (by omega)), rfl, rfl, rfl, rfl, rfl, rfl, trivial⟩, ⟨rfl, rfl, rfl, rfl, rfl, rfl, trivial⟩⟩, stepLt hk⟩
          by_cases hne : ls.getD i [] = []
          · exact .inl hne
          · right
            have hpos : ltB 0 ((ls.getD i []).length : Int) = true := by
              have := List.length_pos_iff.2 hne
              simp only [ltB_true]; omega
            rw [hpos, Bool.true_and, Bool.or_eq_false_iff] at h1
            refine ⟨f0 h1.1, ?_⟩
            have h2 := h1.2
            rw [fl h1.1] at h2
            simpa only [ltB_false] using h2
      · have he : i = ls.length := geN hi (by rw [← hml]; exact h1)
        clear h1
        subst he
        refine ⟨fun h1 => ⟨(fb h1).1, (fb h1).2⟩, fun h1 => ⟨Int.le_refl 0, fn h1⟩, fun h1 => ?_, fun h1 => ?_⟩
        · replace h1 : ltB f 0 = false := h1
          obtain ⟨x, hx⟩ : ∃ x, x = (ls.getD f.toNat []).getD 0 .Z := ⟨_, rfl⟩
          have hst := hM.step hF (f0 h1)
          rw [← hx] at hst
          have hxm : ((ls.map D.L).getD f.toNat .Z).list.getD 0 .Z = x := by rw [fl h1, hx]
          have hset : (ls.map D.L).set f.toNat (D.puts (.slice storedS) ((ls.map D.L).getD f.toNat .Z) [] (.L ((((ls.map D.L).getD f.toNat .Z).list.drop (1 : Int).toNat).take ((((ls.map D.L).getD f.toNat .Z).list.length : Int) - 1).toNat))) = (ls.set f.toNat ((ls.getD f.toNat []).drop 1)).map D.L := by
            rw [D.puts_nil, fl h1]; exact setL_drop _ _
          have hslb : 0 ≤ (1 : Int) ∧ (1 : Int) ≤ (((ls.map D.L).getD f.toNat .Z).list.length : Int) ∧ (((ls.map D.L).getD f.toNat .Z).list.length : Int) ≤ (((ls.map D.L).getD f.toNat .Z).list.length : Int) := by have := fn h1; omega
          have hmu : (flat (ls.set f.toNat ((ls.getD f.toNat []).drop 1))).length < (flat ls).length := by
            have h2 := hM.count
            have h3 := hst.count
            rw [List.length_append, List.length_singleton] at h3
            omega
          have hb := fb h1
          refine ⟨fun h2 => ⟨fun h3 => Bears.int ?_, fun h3 => absurd (show (ltB f 0 || true) = false from h3) (by rw [h1]; simp)⟩, fun h2 => ⟨fun h3 => absurd (show (ltB f 0 || false) = true from h3) (by rw [h1]; simp), fun h3 => ⟨hb, hslb, hb, ⟨(Y ++ [x], ls.set f.toNat ((ls.getD f.toNat []).drop 1)), hst, ?_⟩, ⟨[], rfl, ⟨rfl, rfl, rfl, trivial⟩, ⟨gro hset, rfl, rfl, bx ?_, rfl, rfl, trivial⟩⟩, hmu⟩⟩⟩
          all_goals replace h2 : ((((((ls.map D.L).getD f.toNat .Z).list.getD 0 .Z).nth 1).int == ((Y.getLastD (D0 storedS)).nth 1).int) || ltB (((((ls.map D.L).getD f.toNat .Z).list.getD 0 .Z).nth 2).int) ((Y.getLastD (D0 storedS)).nth 2).int) = _ := h2
          all_goals rw [hxm] at h2
          · show 9 = numE s
            rw [nu_9 hlate (adj_bad h hst h2)]
          · exact adj_snoc hinv h2
          · show ((ls.map D.L).getD f.toNat .Z).list.getD 0 .Z = (Y ++ [x]).getLastD (D0 storedS)
            rw [hxm]; simp
        · replace h1 : ltB f 0 = true := h1
          have hf : f < 0 := by simpa only [ltB_true] using h1
          obtain ⟨hYp, hYs⟩ := hM.done hF hf
          have hadj : adjL (mrg s) = false := adj_done hYp hYs hinv
          refine ⟨fun _ => ⟨hw, ?_⟩, fun h2 => absurd (show (ltB f 0 || true) = false from h2) (by rw [h1]; simp)⟩
          refine ⟨{ i : Nat // i ≤ nG s }, 9, fun i => ([(14, .dat i64 (.I i.1)), (13, .dat i64 (.I (nG s))), (12, .dat (.slice ringS) (s.nth 0)), (3, .own 8 (.slice storedS)), (0, .yld 7), (1, .ptr 6 (.slice ringS) [] (.slice ringS))],
            [(8, .grow (.slice storedS) (lsD s i.1)), (7, .loop .ready), (6, .box (.slice ringS) (.dat (.slice ringS) (s.nth 0))), (1, .box i64 (.dat i64 (.I 0))), (0, .box storeS (.dat storeS s))]), fun i => nG s - i.1,
            ⟨0, by omega⟩, ⟨[], rfl, ⟨rfl, rfl, rfl, rfl, rfl, rfl, trivial⟩, ⟨gro (lsD_0 s), rfl, rfl, rfl, rfl, trivial⟩⟩, ?_⟩
          intro x
          obtain ⟨i, hi⟩ := x
          refine ⟨fun h1 => ?_, fun h1 => ?_⟩
          · have hk2 : i < nG s := ltN h1
            clear h1
            have hlD : (lsD s i).length = nG s := lsD_len (by omega)
            have hc := h.2 i hk2
            have e : (if chk (rgAt s i) ≠ 0 then [] else fromL (rgAt s i) 0 (fromN (rgAt s i) 0)) = evs (rgAt s i) := by
              rw [if_neg (by simp [hc])]; exact fromL_zero (chk_bad hc)
            refine ⟨ix hk2, by show 0 ≤ (i : Int) ∧ (i : Int) < ((lsD s i).length : Int); omega, ⟨i + 1, hk2⟩, ⟨[], rfl, ⟨slot (i64_1 (n := i) (by omega)), rfl, rfl, rfl, rfl, rfl, trivial⟩, ⟨gro ?_, rfl, rfl, rfl, rfl, trivial⟩⟩, stepLt hk2⟩
            show (lsD s i).set i (D.puts (.slice storedS) ((lsD s i).getD i .Z) [] (.L (if chk (rgAt s i) ≠ 0 then [] else fromL (rgAt s i) 0 (fromN (rgAt s i) 0)))) = lsD s (i + 1)
            rw [D.puts_nil, e]; exact lsD_set hk2
          · have he : i = nG s := geN hi h1
            clear h1
            refine ⟨{ x : List D × List (List D) // Mrg keyO (lsts s) x.1 x.2 ∧ ∀ y, y ∈ x.1 → oldG s y = false }, 9, fun x => ([(3, .own 8 (.slice storedS)), (0, .yld 7), (1, .ptr 6 (.slice ringS) [] (.slice ringS))],
              [(8, .grow (.slice storedS) (x.1.2.map D.L)), (7, .loop .ready), (6, .box (.slice ringS) (.dat (.slice ringS) (s.nth 0))), (1, .box i64 (.dat i64 (.I 0))), (0, .box storeS (.dat storeS s))]), fun x => (flat x.1.2).length,
              ⟨([], lsts s), .start (lsts_sorted h), fun y hy => (by cases hy)⟩, ⟨[], rfl, ⟨rfl, rfl, rfl, trivial⟩, ⟨gro ((congrArg (lsD s) he).trans (lsD_all s)), rfl, rfl, rfl, rfl, trivial⟩⟩, ?_⟩
            intro x
            obtain ⟨⟨Y, ls⟩, hM, hinv⟩ := x
            simp only at hM hinv
            have hll : ls.length = nG s := by rw [hM.len, lsts, List.length_map]; rfl
            refine ⟨{ x : Nat × Int // x.1 ≤ ls.length ∧ Fst keyO ls x.1 x.2 }, 9, fun x => ([(30, .dat i64 (.I x.1.1)), (29, .dat i64 (.I (ls.map D.L).length)), (28, .own 8 (.slice storedS)), (6, .dat i64 (.I x.1.2)), (3, .own 8 (.slice storedS)), (0, .yld 7), (1, .ptr 6 (.slice ringS) [] (.slice ringS))],
              [(8, .grow (.slice storedS) (ls.map D.L)), (7, .loop .ready), (6, .box (.slice ringS) (.dat (.slice ringS) (s.nth 0))), (1, .box i64 (.dat i64 (.I 0))), (0, .box storeS (.dat storeS s))]), fun x => ls.length - x.1.1,
              ⟨(0, -1), by simp, .start ls⟩, ⟨[], rfl, ⟨rfl, rfl, rfl, rfl, rfl, rfl, rfl, trivial⟩, ⟨rfl, rfl, rfl, rfl, rfl, trivial⟩⟩, ?_⟩
            intro x
            obtain ⟨⟨i, f⟩, hi, hF⟩ := x
            simp only at hi hF
            have hml : (ls.map D.L).length = ls.length := List.length_map ..
            have f0 : ltB f 0 = false → 0 ≤ f := fun h => by simp only [ltB_false] at h; exact h
            have fb : ltB f 0 = false → 0 ≤ f ∧ f < ((ls.map D.L).length : Int) := fun h => by
              have h1 := (hF.some (f0 h)).1
              have h2 := f0 h
              omega
            have fl : ltB f 0 = false → ((ls.map D.L).getD f.toNat .Z).list = ls.getD f.toNat [] := fun h => mapL_get (by have := fb h; omega)
            have fn : ltB f 0 = false → 0 < (((ls.map D.L).getD f.toNat .Z).list.length : Int) := fun h => by
              rw [fl h]
              have := (hF.some (f0 h)).2.1
              have := List.length_pos_iff.2 this
              omega
            refine ⟨fun h1 => ?_, fun h1 => ?_⟩
            · have hk : i < ls.length := by have : i < (ls.map D.L).length := ltN h1; omega
              clear h1
              have gl : ((ls.map D.L).getD i .Z).list = ls.getD i [] := mapL_get hk
              refine ⟨(by show 0 ≤ (i : Int) ∧ (i : Int) < ((ls.map D.L).length : Int); omega), fun h1 => ⟨Int.le_refl 0, ltT (keyOne h1.2)⟩, fun h1 => ⟨(fb h1.1).1, (fb h1.1).2⟩, fun h1 => ⟨Int.le_refl 0, fn h1.1⟩, by kernel_rfl, fun h1 => ?_, fun h1 => ?_⟩
              all_goals replace h1 : (ltB 0 (((ls.map D.L).getD i .Z).list.length : Int) && (ltB f 0 || ltB (keyO (((ls.map D.L).getD i .Z).list.getD 0 .Z)) (keyO (((ls.map D.L).getD f.toNat .Z).list.getD 0 .Z)))) = _ := h1
              all_goals rw [gl] at h1
              · rw [Bool.and_eq_true, Bool.or_eq_true] at h1
                have hne : ls.getD i [] ≠ [] := fun e => by rw [e] at h1; simp at h1
                refine ⟨⟨(i + 1, (i : Int)), hk, hF.take hne ?_⟩, ⟨[], rfl, ⟨slot (i64_1 (n := i) (by omega)), rfl, rfl, rfl, rfl, rfl, rfl, trivial⟩, ⟨rfl, rfl, rfl, rfl, rfl, trivial⟩⟩, stepLt hk⟩
                by_cases hf : f < 0
                · exact .inl hf
                · rcases h1.2 with h2 | h2
                  · simp only [ltB_true] at h2; exact .inl h2
                  · rw [fl (by simp only [ltB_false]; omega)] at h2
                    simp only [ltB_true] at h2; exact .inr h2
              · refine ⟨⟨(i + 1, f), hk, hF.skip ?_⟩, ⟨[], rfl, ⟨slot (i64_1 (n := i) (by omega)), rfl, rfl, rfl, rfl, rfl, rfl, trivial⟩, ⟨rfl, rfl, rfl, rfl, rfl, trivial⟩⟩, stepLt hk⟩
                by_cases hne : ls.getD i [] = []
                · exact .inl hne
                · right
                  have hpos : ltB 0 ((ls.getD i []).length : Int) = true := by
                    have := List.length_pos_iff.2 hne
                    simp only [ltB_true]; omega
                  rw [hpos, Bool.true_and, Bool.or_eq_false_iff] at h1
                  refine ⟨f0 h1.1, ?_⟩
                  have h2 := h1.2
                  rw [fl h1.1] at h2
                  simpa only [ltB_false] using h2
            · have he : i = ls.length := geN hi (by rw [← hml]; exact h1)
              clear h1
              subst he
              refine ⟨fun h1 => ⟨(fb h1).1, (fb h1).2⟩, fun h1 => ⟨Int.le_refl 0, fn h1⟩, fun h1 => ?_, fun h1 => ?_⟩
              · replace h1 : ltB f 0 = false := h1
                obtain ⟨x, hx⟩ : ∃ x, x = (ls.getD f.toNat []).getD 0 .Z := ⟨_, rfl⟩
                have hst := hM.step hF (f0 h1)
                rw [← hx] at hst
                have hxm : ((ls.map D.L).getD f.toNat .Z).list.getD 0 .Z = x := by rw [fl h1, hx]
                have hset : (ls.map D.L).set f.toNat (D.puts (.slice storedS) ((ls.map D.L).getD f.toNat .Z) [] (.L ((((ls.map D.L).getD f.toNat .Z).list.drop (1 : Int).toNat).take ((((ls.map D.L).getD f.toNat .Z).list.length : Int) - 1).toNat))) = (ls.set f.toNat ((ls.getD f.toNat []).drop 1)).map D.L := by
                  rw [D.puts_nil, fl h1]; exact setL_drop _ _
                have hslb : 0 ≤ (1 : Int) ∧ (1 : Int) ≤ (((ls.map D.L).getD f.toNat .Z).list.length : Int) ∧ (((ls.map D.L).getD f.toNat .Z).list.length : Int) ≤ (((ls.map D.L).getD f.toNat .Z).list.length : Int) := by have := fn h1; omega
                have hmu : (flat (ls.set f.toNat ((ls.getD f.toNat []).drop 1))).length < (flat ls).length := by
                  have h2 := hM.count
                  have h3 := hst.count
                  rw [List.length_append, List.length_singleton] at h3
                  omega
                have hb := fb h1
                refine ⟨fun h2 => ⟨fun h3 => Bears.int ?_, fun h3 => absurd (show (ltB f 0 || true) = false from h3) (by rw [h1]; simp)⟩, fun h2 => ⟨fun h3 => absurd (show (ltB f 0 || false) = true from h3) (by rw [h1]; simp), fun h3 => ⟨hb, hslb, hb, ⟨(Y ++ [x], ls.set f.toNat ((ls.getD f.toNat []).drop 1)), hst, ?_⟩, ⟨[], rfl, ⟨rfl, rfl, rfl, trivial⟩, ⟨gro hset, rfl, rfl, rfl, rfl, trivial⟩⟩, hmu⟩⟩⟩
                all_goals replace h2 : oldG s (((ls.map D.L).getD f.toNat .Z).list.getD 0 .Z) = _ := h2
                all_goals rw [hxm] at h2
                · show 10 = numE s
                  have hxf : x ∈ flat (lsts s) := hst.perm.mem_iff.1 (by simp)
                  rw [nu_10 hlate hadj (by rw [any_mrg]; exact List.any_eq_true.2 ⟨x, hxf, h2⟩)]
                · intro y hy
                  rcases List.mem_append.1 hy with hy | hy
                  · exact hinv y hy
                  · rw [List.mem_singleton] at hy; subst hy; exact h2
              · replace h1 : ltB f 0 = true := h1
                have hf : f < 0 := by simpa only [ltB_true] using h1
                obtain ⟨hYp, hYs⟩ := hM.done hF hf
                refine ⟨fun _ => Bears.int ?_, fun h2 => absurd (show (ltB f 0 || true) = false from h2) (by rw [h1]; simp)⟩
                show 0 = numE s
                have hold : (mrg s).any (oldG s) = false := by
                  rw [any_mrg, List.any_eq_false]
                  intro y hy
                  rw [hinv y (hYp.mem_iff.2 hy)]; simp
                rw [nu_0 hlate hadj hold]
theorem num_ok : SumOK Try.prog 65 sNum := sumOK_of_vc (c := cNum) (CtxOK.of tabTOK refsTOK (.cons listP_ok .nil) (FunsOK.cons rfl rfl (by decide) (FunsOK.cons rfl rfl (by decide) FunsOK.nil)) mpsTOK) mixed Try.func65 rfl (by decide) @num_fun
theorem checkT_ok : SumOK Try.prog 42 sChk := sumOK_of_vc (c := cCk) (ctxT (.cons Rg.check_ok (.cons labels_ok (.cons num_ok .nil)))) mixed Try.func42 rfl (by decide) @checkT_fun
end Go.Proofs.Ytpfpgjkbnjnjnaa
