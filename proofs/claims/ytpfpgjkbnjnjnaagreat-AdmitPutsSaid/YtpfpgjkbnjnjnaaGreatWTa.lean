/- Accounts of stores: what a right store is; the reference's merged list. -/
import Derived.Test.YtpfpgjkbnjnjnaaGreatWTs
import Derived.Test.YtpfpgjkbnjnjnaaGreatWGn
import Derived.Test.YtpfpgjkbnjnjnaaGreatWCe
import Derived.Test.YtpfpgjkbnjnjnaaGreatWGq
namespace Go.Proofs.YtpfpgjkbnjnjnaaGreat
open Go Go.Vm Rg
set_option linter.unusedSimpArgs false
set_option linter.unusedVariables false
set_option maxRecDepth 10000
abbrev storeS : Sh := .struct [.slice ringS, u64, u64, u64]
def tabT : List (Nat × Sh) := [(32, storeS), (30, .slice ringS), (54, .slice storedS), (165, .slice (.slice storedS)), (156, .struct [.slice ringS]), (159, .struct [.struct [.slice ringS], storeS]),
  (45, .struct [u64, i64, i64]), (33, .slice i64)] ++ Rg.tab ++ Cf.tab
def refsT : List (Nat × Value) := [(120, .nilFunc), (185, .nilFunc)] ++ Cf.refs
def mpsT : List (Nat × MI) := [(179, .map u64 .bool), (118, .map idS storedS)]
def c0T : Ctx := ⟨tabT, refsT, [], [], keep, mpsT⟩
theorem tabTOK : tabB Tryz.prog tabT = true := by kernel_rfl
theorem refsTOK : refsB Tryz.prog refsT = true := by kernel_rfl
theorem mpsTOK : mapsB Tryz.prog mpsT = true := by kernel_rfl
theorem ctxT {l : List (Nat × Sum)} (h : SumsOK Tryz.prog l) : CtxOK Tryz.prog ⟨tabT, refsT, l, [], keep, mpsT⟩ := CtxOK.of tabTOK refsTOK h FunsOK.nil mpsTOK
/-! ### Plain stores -/
def rgs (s : D) : List D := (s.nth 0).list
def nG (s : D) : Nat := (rgs s).length
def rgAt (s : D) (i : Nat) : D := (rgs s).getD i .Z
def evs (r : D) : List D := lst r (cap r)
def keyO (x : D) : Int := (x.nth 1).int
def lsts (s : D) : List (List D) := (rgs s).map evs
def mrg (s : D) : List D := srt keyO (flat (lsts s))
def okRgs (s : D) : Prop := nG s ≤ 8 ∧ ∀ i, i < nG s → chk (rgAt s i) = 0
theorem evs_get {r : D} {i : Nat} (h : i < cap r) : (evs r).getD i .Z = evAt r i := by
  rw [List.getD_eq_getElem?_getD]; exact lst_get r _ i h
theorem evs_len (r : D) : (evs r).length = cap r := lst_len _ _
theorem bef_evs {r : D} (h : chk r = 0) {i : Nat} (hi : i < cap r) : evF (r.nth 0).int ((r.nth 2).int + i) (evAt r i) (bef r i) = 0 := chk_er0 h i hi
theorem evs_strict {r : D} (h : chk r = 0) : Strict keyO (evs r) := by
  refine strict_of_adj fun i hi => ?_
  rw [evs_len] at hi
  rw [evs_get (by omega), evs_get hi]
  exact (evF_zero (bef_evs h hi)).2.2.2.2.2.2.2.1
theorem evs_sorted {r : D} (h : chk r = 0) : SortK keyO (evs r) := (evs_strict h).imp fun h => by omega
theorem lsts_sorted {s : D} (h : okRgs s) : ∀ l, l ∈ lsts s → SortK keyO l := by
  intro l hl
  obtain ⟨r, hr, rfl⟩ := List.mem_map.1 hl
  obtain ⟨i, hi, rfl⟩ := mem_getD hr
  exact evs_sorted (h.2 i hi)
theorem cap64 {r : D} (h : chk r = 0) : cap r ≤ 64 := (cap_le (chk_bad h)).1
theorem flat_len {s : D} (h : okRgs s) : (flat (lsts s)).length ≤ 512 := by
  have key : ∀ l : List D, (∀ r, r ∈ l → chk r = 0) → (flat (l.map evs)).length ≤ 64 * l.length := by
    intro l
    induction l with
    | nil => intro _; simp [flat]
    | cons r l ih =>
      intro h
      have h1 := ih fun q hq => h q (List.mem_cons_of_mem _ hq)
      have h2 := cap64 (h r (List.mem_cons_self ..))
      simp only [flat, List.map_cons, List.flatten_cons, List.length_append, List.length_cons, evs_len] at h1 ⊢
      omega
  have h1 := key (rgs s) fun r hr => by obtain ⟨i, hi, rfl⟩ := mem_getD hr; exact h.2 i hi
  have h2 : (rgs s).length ≤ 8 := h.1
  have : flat (lsts s) = flat ((rgs s).map evs) := rfl
  rw [this]; omega
theorem mem_flat {s : D} {x : D} : x ∈ flat (lsts s) ↔ ∃ i, i < nG s ∧ ∃ j, j < cap (rgAt s i) ∧ evAt (rgAt s i) j = x := by
  rw [flat, List.mem_flatten]
  constructor
  · rintro ⟨l, hl, hx⟩
    obtain ⟨r, hr, rfl⟩ := List.mem_map.1 hl
    obtain ⟨i, hi, rfl⟩ := mem_getD hr
    obtain ⟨j, hj, rfl⟩ := mem_getD hx
    rw [evs_len] at hj
    exact ⟨i, hi, j, hj, (evs_get hj).symm⟩
  · rintro ⟨i, hi, j, hj, rfl⟩
    exact ⟨_, List.mem_map.2 ⟨_, getD_mem hi, rfl⟩, by rw [← evs_get hj]; exact getD_mem (by rw [evs_len]; exact hj)⟩
theorem flat_pos {s : D} (h : okRgs s) {x : D} (hx : x ∈ flat (lsts s)) : 1 ≤ keyO x ∧ 0 ≤ (x.nth 2).int ∧ keyO x ≤ 1099511627776 ∧ (x.nth 2).int ≤ 1099511627776 := by
  obtain ⟨i, hi, j, hj, rfl⟩ := mem_flat.1 hx
  have h0 := h.2 i hi
  have h1 := evF_zero (bef_evs h0 hj)
  have h2 := tick_nonneg (chk_er0 h0) j hj
  exact ⟨h1.2.2.2.2.1, h2, h1.2.2.2.2.2.1, h1.2.2.2.2.2.2.1⟩
/-! ### The reference's merged list -/
def sMerged : Sum := ⟨[storeS], fun
  | [s] => some (okRgs s)
  | _ => none, fun
  | [s] => .dat (.slice storedS) (.L (mrg s))
  | _ => .und⟩
theorem lsts_take (s : D) (i : Nat) (hi : i < nG s) : flat ((lsts s).take (i + 1)) = flat ((lsts s).take i) ++ evs (rgAt s i) := by
  have h : i < (lsts s).length := by rw [lsts, List.length_map]; exact hi
  rw [flat, flat, List.take_add_one, List.getElem?_eq_getElem h, List.flatten_append]
  simp only [Option.toList, List.flatten_cons, List.flatten_nil, List.append_nil]
  congr 1
  simp only [lsts, List.getElem_map]
  congr 1
  rw [rgAt, List.getD_eq_getElem?_getD, List.getElem?_eq_getElem hi]; rfl
def cMg : Ctx := ⟨tabT, refsT, [(119, sListP)], [], keep, mpsT⟩
theorem merged_fun : FunOK cMg 100 Tryz.f74 sMerged := fun s hs h => by
  replace h : okRgs s := h
  obtain ⟨F, hF⟩ : ∃ F, F = flat (lsts s) := ⟨_, rfl⟩
  have hlen : F.length ≤ 512 := hF ▸ flat_len h
  have h8 := h.1
  have htk : ∀ i, (flat ((lsts s).take i)).length ≤ F.length := fun i => by
    have e : flat (lsts s) = flat ((lsts s).take i) ++ flat ((lsts s).drop i) := by
      rw [flat, flat, flat, ← List.flatten_append, List.take_append_drop]
    rw [hF, e, List.length_append]; omega
  refine ⟨{ i : Nat // i ≤ nG s }, 4, fun i => ([(4, .dat i64 (.I i.1)), (3, .own 3 storedS), (1, .ptr 0 storeS [] storeS)], [(3, .grow storedS (flat ((lsts s).take i.1))), (0, .box storeS (.dat storeS s))]), fun i => nG s - i.1,
    ⟨0, by omega⟩, ⟨[(3, 2)], rfl, ⟨rfl, rfl, rfl, trivial⟩, ⟨rfl, rfl, trivial⟩⟩, ?_⟩
  intro x
  obtain ⟨i, hi⟩ := x
  refine ⟨fun h1 => ?_, fun h1 => ?_⟩
  · have hk : i < nG s := ltN h1
    have hc := h.2 i hk
    have e : (if chk (rgAt s i) ≠ 0 then [] else fromL (rgAt s i) 0 (fromN (rgAt s i) 0)) = evs (rgAt s i) := by
      rw [if_neg (by simp [hc])]; exact fromL_zero (chk_bad hc)
    refine ⟨ix hk, ?_, ⟨i + 1, hk⟩, ⟨[(3, 4)], rfl, ⟨slot (i64_1 (n := i) (by omega)), rfl, rfl, trivial⟩, ⟨gro ?_, rfl, trivial⟩⟩, stepLt hk⟩
    · show (flat ((lsts s).take i)).length + (if chk (rgAt s i) ≠ 0 then [] else fromL (rgAt s i) 0 (fromN (rgAt s i) 0)).length ≤ 1073741824
      rw [e]
      have h2 := htk (i + 1)
      rw [lsts_take s i hk, List.length_append] at h2
      omega
    · show flat ((lsts s).take i) ++ (if chk (rgAt s i) ≠ 0 then [] else fromL (rgAt s i) 0 (fromN (rgAt s i) 0)) = flat ((lsts s).take (i + 1))
      rw [e, lsts_take s i hk]
  · have he : i = nG s := geN hi h1
    have e : flat ((lsts s).take i) = F := by
      rw [List.take_of_length_le (by rw [lsts, List.length_map, he]; exact Nat.le_refl _), hF]
    refine ⟨{ i : Nat // 1 ≤ i ∧ (i ≤ F.length ∨ i = 1) }, 5, fun i => ([(7, .dat i64 (.I i.1)), (3, .own 4 storedS)], [(4, .grow storedS (srt keyO (F.take i.1) ++ F.drop i.1))]), fun i => F.length - i.1,
      ⟨1, by omega⟩, ⟨[(4, 3)], rfl, ⟨rfl, rfl, trivial⟩, ⟨gro ?_, trivial⟩⟩, ?_⟩
    · rw [e]
      cases F with
      | nil => rfl
      | cons a l => rfl
    clear h1 e he hi
    intro x
    obtain ⟨i, hi1, hi⟩ := x
    have hl : (srt keyO (F.take i) ++ F.drop i).length = F.length := by rw [List.length_append, srt_len, List.length_take, List.length_drop]; omega
    refine ⟨fun h1 => ?_, fun h1 => ?_⟩
    · have hk : i < F.length := by have : i < (srt keyO (F.take i) ++ F.drop i).length := ltN h1; omega
      clear h1
      refine ⟨{ j : Nat // j ≤ i ∧ ∀ k, j ≤ k → k < i → keyO (F.getD i .Z) < keyO ((srt keyO (F.take i)).getD k .Z) }, 5, fun j => ([(8, .dat i64 (.I j.1)), (7, .dat i64 (.I i)), (3, .own 4 storedS)], [(4, .grow storedS (goS keyO F i j.1))]), fun j => j.1,
        ⟨i, by omega, fun k h1 h2 => by omega⟩, ⟨[], rfl, ⟨rfl, rfl, rfl, trivial⟩, ⟨gro (goS_start hk), trivial⟩⟩, ?_⟩
      intro x
      obtain ⟨j, hj, hg⟩ := x
      have gl : (goS keyO F i j).length = F.length := goS_len hk hj
      have hj1 : 0 < j → IntKind.i64.wrap ((j : Int) - 1) = ((j - 1 : Nat) : Int) := fun h => by
        rw [wrap_i64 (by omega) (by omega)]; omega
      have jp : KeyCond [(37, true, ltB 0 (j : Int))] → 0 < j := fun hk => by
        have h := keyOne hk; simp only [ltB_true] at h; omega
      have b2 : 0 ≤ (j : Int) ∧ (j : Int) < ((goS keyO F i j).length : Int) := by omega
      refine ⟨fun _ => ⟨b2.1, b2.2⟩, fun hk => ⟨?_, ?_⟩, by kernel_rfl, fun h1 => ?_, fun h1 => ?_⟩
      · show 0 ≤ IntKind.i64.wrap ((j : Int) - 1)
        rw [hj1 (jp hk)]; omega
      · show IntKind.i64.wrap ((j : Int) - 1) < ((goS keyO F i j).length : Int)
        have := jp hk
        rw [hj1 this]; omega
      all_goals replace h1 : (ltB 0 (j : Int) && ltB (keyO ((goS keyO F i j).getD j .Z)) (keyO ((goS keyO F i j).getD (IntKind.i64.wrap ((j : Int) - 1)).toNat .Z))) = _ := h1
      · simp only [Bool.and_eq_true, ltB_true] at h1
        obtain ⟨n, rfl⟩ : ∃ n, j = n + 1 := ⟨j - 1, by omega⟩
        have hw : IntKind.i64.wrap (((n + 1 : Nat) : Int) - 1) = (n : Int) := by rw [hj1 (by omega)]; simp
        have h2 := h1.2
        rw [hw, Int.toNat_natCast, goS_at hk hj, goS_lo hk hj (by omega)] at h2
        have b1 : 0 ≤ IntKind.i64.wrap (((n + 1 : Nat) : Int) - 1) ∧ IntKind.i64.wrap (((n + 1 : Nat) : Int) - 1) < ((goS keyO F i (n + 1)).length : Int) := by rw [hw]; omega
        refine ⟨b1, b2, b2, ?_, by kernel_rfl, ⟨n, by omega, fun k h3 h4 => ?_⟩, ⟨[], rfl, ⟨slot hw, rfl, rfl, trivial⟩, ⟨gro ?_, trivial⟩⟩, Nat.lt_succ_self n⟩
        · show 0 ≤ IntKind.i64.wrap (((n + 1 : Nat) : Int) - 1) ∧ IntKind.i64.wrap (((n + 1 : Nat) : Int) - 1) < (((goS keyO F i (n + 1)).set (n + 1) _).length : Int)
          rw [List.length_set]; exact b1
        · rcases Nat.lt_or_eq_of_le h3 with h5 | rfl
          · exact hg k h5 h4
          · exact h2
        · show ((goS keyO F i (n + 1)).set (n + 1) (D.puts storedS ((goS keyO F i (n + 1)).getD (n + 1) .Z) [] ((goS keyO F i (n + 1)).getD (IntKind.i64.wrap (((n + 1 : Nat) : Int) - 1)).toNat .Z))).set (IntKind.i64.wrap (((n + 1 : Nat) : Int) - 1)).toNat (D.puts storedS _ [] ((goS keyO F i (n + 1)).getD (n + 1) .Z)) = _
          rw [hw, Int.toNat_natCast, D.puts_nil, D.puts_nil]
          exact goS_swap hk (by omega)
      · have hend := goS_end hk hj hg fun h0 => by
          rw [hj1 h0, Int.toNat_natCast, goS_at hk hj, goS_lo hk hj (by omega)] at h1
          simp only [Bool.and_eq_false_iff, ltB_false] at h1
          omega
        exact ⟨⟨i + 1, by omega, by omega⟩, ⟨[], rfl, ⟨slot (i64_1 (n := i) (by omega)), rfl, trivial⟩, ⟨gro hend, trivial⟩⟩, stepLt hk⟩
    · refine Bears.same (eqSame ?_)
      have h2 : ¬ i < F.length := fun h => by
        have h1 : ltB (i : Int) ((srt keyO (F.take i) ++ F.drop i).length : Int) = false := h1
        simp only [ltB_false] at h1; omega
      show D.L (srt keyO (F.take i) ++ F.drop i) = D.L (mrg s)
      rw [List.take_of_length_le (by omega), List.drop_of_length_le (by omega), List.append_nil, hF]; rfl
theorem merged_ok : SumOK Tryz.prog 74 sMerged := sumOK_of_vc (c := cMg) (ctxT (.cons listPR_ok .nil)) mixed Tryz.func74 rfl (by decide) @merged_fun
end Go.Proofs.YtpfpgjkbnjnjnaaGreat
