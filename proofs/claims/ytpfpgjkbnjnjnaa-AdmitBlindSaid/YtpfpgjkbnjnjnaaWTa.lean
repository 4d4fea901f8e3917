/- Accounts of stores: what a right store is; the reference's merged list. -/
import Derived.Test.YtpfpgjkbnjnjnaaWTs
import Derived.Test.YtpfpgjkbnjnjnaaWGn
import Derived.Test.YtpfpgjkbnjnjnaaWCe
import Derived.Test.YtpfpgjkbnjnjnaaWGq
namespace Go.Proofs.Ytpfpgjkbnjnjnaa
open Go Go.Vm Rg
set_option linter.unusedSimpArgs false
set_option linter.unusedVariables false
set_option maxRecDepth 10000
abbrev storeS : Sh := .struct [.slice ringS, u64, u64, u64]
def tabT : List (Nat × Sh) := [(27, storeS), (25, .slice ringS), (63, .slice storedS), (177, .slice (.slice storedS)), (146, .struct [.slice ringS]), (149, .struct [.struct [.slice ringS], storeS]),
  (39, .struct [u64, i64, i64]), (28, .slice i64), (83, .slice u64)] ++ Rg.tab ++ Cf.tab
def refsT : List (Nat × Value) := [(138, .nilFunc), (192, .nilFunc)] ++ Cf.refs
def mpsT : List (Nat × MI) := [(186, .map u64 .bool), (136, .map idS storedS)]
def c0T : Ctx := ⟨tabT, refsT, [], [], keep, mpsT⟩
theorem tabTOK : tabB Try.prog tabT = true := by kernel_rfl
theorem refsTOK : refsB Try.prog refsT = true := by kernel_rfl
theorem mpsTOK : mapsB Try.prog mpsT = true := by kernel_rfl
theorem ctxT {l : List (Nat × Sum)} (h : SumsOK Try.prog l) : CtxOK Try.prog ⟨tabT, refsT, l, [], keep, mpsT⟩ := CtxOK.of tabTOK refsTOK h FunsOK.nil mpsTOK
/-! ### Plain stores -/
def rgs (s : D) : List D := (s.nth 0).list
def nG (s : D) : Nat := (rgs s).length
def rgAt (s : D) (i : Nat) : D := (rgs s).getD i .Z
def evs (r : D) : List D := lst r (cap r)
def keyO (x : D) : Int := (x.nth 1).int
def lsts (s : D) : List (List D) := (rgs s).map evs
def mrg (s : D) : List D := srt keyO (flat (lsts s))
def okRgs (s : D) : Prop := nG s ≤ 8 ∧ ∀ i, i < nG s → chk (rgAt s i) = 0
theorem evs_get {r : D} {i : Nat} (h : i < cap r) : (evs r).getD i .Z = evAt r i := by
  rw [List.getD_eq_getElem?_getD]; exact lst_get r _ i h
theorem evs_len (r : D) : (evs r).length = cap r := lst_len _ _
theorem bef_evs {r : D} (h : chk r = 0) {i : Nat} (hi : i < cap r) : evF (r.nth 0).int ((r.nth 2).int + i) (evAt r i) (bef r i) = 0 := chk_er0 h i hi
theorem evs_strict {r : D} (h : chk r = 0) : Strict keyO (evs r) := by
  refine strict_of_adj fun i hi => ?_
  rw [evs_len] at hi
  rw [evs_get (by omega), evs_get hi]
  exact (evF_zero (bef_evs h hi)).2.2.2.2.2.2.2.1
theorem evs_sorted {r : D} (h : chk r = 0) : SortK keyO (evs r) := (evs_strict h).imp fun h => by omega
theorem lsts_sorted {s : D} (h : okRgs s) : ∀ l, l ∈ lsts s → SortK keyO l := by
  intro l hl
  obtain ⟨r, hr, rfl⟩ := List.mem_map.1 hl
  obtain ⟨i, hi, rfl⟩ := mem_getD hr
  exact evs_sorted (h.2 i hi)
theorem cap64 {r : D} (h : chk r = 0) : cap r ≤ 64 := (cap_le (chk_bad h)).1
theorem flat_len {s : D} (h : okRgs s) : (flat (lsts s)).length ≤ 512 := by
  have key : ∀ l : List D, (∀ r, r ∈ l → chk r = 0) → (flat (l.map evs)).length ≤ 64 * l.length := by
    intro l
    induction l with
    | nil => intro _; simp [flat]
    | cons r l ih =>
      intro h
      have h1 := ih fun q hq => h q (List.mem_cons_of_mem _ hq)
      have h2 := cap64 (h r (List.mem_cons_self ..))
      simp only [flat, List.map_cons, List.flatten_cons, List.length_append, List.length_cons, evs_len] at h1 ⊢
      omega
  have h1 := key (rgs s) fun r hr => by obtain ⟨i, hi, rfl⟩ := mem_getD hr; exact h.2 i hi
  have h2 : (rgs s).length ≤ 8 := h.1
  have : flat (lsts s) = flat ((rgs s).map evs) := rfl
  rw [this]; omega
theorem mem_flat {s : D} {x : D} : x ∈ flat (lsts s) ↔ ∃ i, i < nG s ∧ ∃ j, j < cap (rgAt s i) ∧ evAt (rgAt s i) j = x := by
  rw [flat, List.mem_flatten]
  constructor
  · rintro ⟨l, hl, hx⟩
    obtain ⟨r, hr, rfl⟩ := List.mem_map.1 hl
    obtain ⟨i, hi, rfl⟩ := mem_getD hr
    obtain ⟨j, hj, rfl⟩ := mem_getD hx
    rw [evs_len] at hj
    exact ⟨i, hi, j, hj, (evs_get hj).symm⟩
  · rintro ⟨i, hi, j, hj, rfl⟩
    exact ⟨_, List.mem_map.2 ⟨_, getD_mem hi, rfl⟩, by rw [← evs_get hj]; exact getD_mem (by rw [evs_len]; exact hj)⟩
theorem flat_pos {s : D} (h : okRgs s) {x : D} (hx : x ∈ flat (lsts s)) : 1 ≤ keyO x ∧ 0 ≤ (x.nth 2).int ∧ keyO x ≤ 1099511627776 ∧ (x.nth 2).int ≤ 1099511627776 := by
  obtain ⟨i, hi, j, hj, rfl⟩ := mem_flat.1 hx
  have h0 := h.2 i hi
  have h1 := evF_zero (bef_evs h0 hj)
  have h2 := tick_nonneg (chk_er0 h0) j hj
  exact ⟨h1.2.2.2.2.1, h2, h1.2.2.2.2.2.1, h1.2.2.2.2.2.2.1⟩
/-! ### The reference's merged list -/
def sMerged : Sum := ⟨[storeS], fun
  | [s] => some (okRgs s)
  | _ => none, fun
  | [s] => .dat (.slice storedS) (.L (mrg s))
  | _ => .und⟩
theorem lsts_take (s : D) (i : Nat) (hi : i < nG s) : flat ((lsts s).take (i + 1)) = flat ((lsts s).take i) ++ evs (rgAt s i) := by
  have h : i < (lsts s).length := by rw [lsts, List.length_map]; exact hi
  rw [flat, flat, List.take_add_one, List.getElem?_eq_getElem h, List.flatten_append]
  simp only [Option.toList, List.flatten_cons, List.flatten_nil, List.append_nil]
  congr 1
  simp only [lsts, List.getElem_map]
  congr 1
  rw [rgAt, List.getD_eq_getElem?_getD, List.getElem?_eq_getElem hi]; rfl
def cMg : Ctx := ⟨tabT, refsT, [], [], keep, mpsT⟩
end Go.Proofs.Ytpfpgjkbnjnjnaa
