/- The library's sort by a function, told of the program. -/
import Derived.Shelf.SlSortCmp.NoneTotal
import Derived.Test.YtohgdncglegjmaaWLj
namespace Go.Proofs.Ytohgdncglegjmaa
open Go Go.Shelf Go.RowKit Go.Lib Go.Sort
set_option linter.unusedSimpArgs false
set_option linter.unusedVariables false
set_option maxRecDepth 10000
/-- The numbers of the library's sort here. -/
def sortF : Nat → Nat
  | 6 => 50
  | 15 => 58
  | 14 => 57
  | 28 => 68
  | 29 => 69
  | 20 => 60
  | 21 => 61
  | 22 => 62
  | 23 => 63
  | 24 => 64
  | 25 => 65
  | 26 => 66
  | 27 => 67
  | 46 => 79
  | 47 => 80
  | 48 => 81
  | 49 => 82
  | 50 => 83
  | 57 => 88
  | n => n
def sortT : Nat → Nat
  | 22 => 22
  | 24 => 27
  | 25 => 60
  | 3 => 3
  | 39 => 66
  | 0 => 0
  | 53 => 77
  | 55 => 27
  | 4 => 4
  | 46 => 70
  | 45 => 69
  | 50 => 74
  | 5 => 5
  | 9 => 9
  | 66 => 83
  | 70 => 87
  | 76 => 91
  | 77 => 92
  | n => n
def sortRen : Go.Shelf.Ren := ⟨sortF, sortT, fun n => n⟩
theorem sortL : SlLaysF.n6 Try.prog sortRen where
  mixed := mixed
  f6 := ⟨ "slices.SortFunc[[]uint64,uint64]", by decide, Try.func50.trans (by kernel_rfl)⟩
  f14 := ⟨ "slices.pdqsortCmpFunc[uint64]", by decide, Try.func57.trans (by kernel_rfl)⟩
  f15 := Try.func58.trans (by kernel_rfl)
  f20 := ⟨ "slices.insertionSortCmpFunc[uint64]", by decide, Try.func60.trans (by kernel_rfl)⟩
  f21 := ⟨ "slices.heapSortCmpFunc[uint64]", by decide, Try.func61.trans (by kernel_rfl)⟩
  f22 := ⟨ "slices.breakPatternsCmpFunc[uint64]", by decide, Try.func62.trans (by kernel_rfl)⟩
  f23 := ⟨ "slices.choosePivotCmpFunc[uint64]", by decide, Try.func63.trans (by kernel_rfl)⟩
  f24 := ⟨ "slices.reverseRangeCmpFunc[uint64]", by decide, Try.func64.trans (by kernel_rfl)⟩
  f25 := ⟨ "slices.partialInsertionSortCmpFunc[uint64]", by decide, Try.func65.trans (by kernel_rfl)⟩
  f26 := ⟨ "slices.partitionEqualCmpFunc[uint64]", by decide, Try.func66.trans (by kernel_rfl)⟩
  f27 := ⟨ "slices.partitionCmpFunc[uint64]", by decide, Try.func67.trans (by kernel_rfl)⟩
  f28 := Try.func68.trans (by kernel_rfl)
  f29 := Try.func69.trans (by kernel_rfl)
  f46 := ⟨ "slices.siftDownCmpFunc[uint64]", by decide, Try.func79.trans (by kernel_rfl)⟩
  f47 := Try.func80.trans (by kernel_rfl)
  f48 := Try.func81.trans (by kernel_rfl)
  f49 := ⟨ "slices.medianAdjacentCmpFunc[uint64]", by decide, Try.func82.trans (by kernel_rfl)⟩
  f50 := ⟨ "slices.medianCmpFunc[uint64]", by decide, Try.func83.trans (by kernel_rfl)⟩
  f57 := ⟨ "slices.order2CmpFunc[uint64]", by decide, Try.func88.trans (by kernel_rfl)⟩
  t0 := Try.underlying0
  a0 := Try.isAgg0
  z0 := Try.sizeOf0
  v0 := Try.zeroValue0
  t3 := Try.underlying3
  a3 := Try.isAgg3
  z3 := Try.sizeOf3
  v3 := Try.zeroValue3
  t4 := Try.underlying4
  a4 := Try.isAgg4
  z4 := Try.sizeOf4
  v4 := Try.zeroValue4
  t5 := Try.underlying5
  a5 := Try.isAgg5
  z5 := Try.sizeOf5
  v5 := Try.zeroValue5
  t9 := Try.underlying9
  a9 := Try.isAgg9
  z9 := Try.sizeOf9
  v9 := Try.zeroValue9
  t22 := Try.underlying22
  a22 := Try.isAgg22
  z22 := Try.sizeOf22
  v22 := Try.zeroValue22
  a24 := Try.isAgg27
  z24 := Try.sizeOf27
  t25 := Try.underlying60
  a25 := Try.isAgg60
  z25 := Try.sizeOf60
  v25 := Try.zeroValue60
  t39 := Try.underlying66
  a39 := Try.isAgg66
  z39 := Try.sizeOf66
  v39 := Try.zeroValue66
  t45 := Try.underlying69
  a45 := Try.isAgg69
  z45 := Try.sizeOf69
  v45 := Try.zeroValue69
  t46 := Try.underlying70
  a46 := Try.isAgg70
  z46 := Try.sizeOf70
  v46 := Try.zeroValue70
  t50 := Try.underlying74
  a50 := Try.isAgg74
  z50 := Try.sizeOf74
  v50 := Try.zeroValue74
  t53 := Try.underlying77
  a53 := Try.isAgg77
  z53 := Try.sizeOf77
  v53 := Try.zeroValue77
  t55 := Try.underlying27
  a55 := Try.isAgg27
  z55 := Try.sizeOf27
  v55 := Try.zeroValue27
  t66 := Try.underlying83
  a66 := Try.isAgg83
  z66 := Try.sizeOf83
  v66 := Try.zeroValue83
  t70 := Try.underlying87
  a70 := Try.isAgg87
  z70 := Try.sizeOf87
  v70 := Try.zeroValue87
  t76 := Try.underlying91
  a76 := Try.isAgg91
  z76 := Try.sizeOf91
  v76 := Try.zeroValue91
  t77 := Try.underlying92
  a77 := Try.isAgg92
  z77 := Try.sizeOf92
  v77 := Try.zeroValue92
def V1 (x : Int) : Int := IntKind.u64.wrap (bits .and .u64 (x / 2) 6148914691236517205 + bits .and .u64 x 6148914691236517205)
def V2 (x : Int) : Int := IntKind.u64.wrap (bits .and .u64 (x / 4) 3689348814741910323 + bits .and .u64 x 3689348814741910323)
def V3 (x : Int) : Int := bits .and .u64 (IntKind.u64.wrap (x / 16 + x)) 1085102592571150095
def V4 (x : Int) : Int := IntKind.u64.wrap (x + x / 256)
def V5 (x : Int) : Int := IntKind.u64.wrap (x + x / 65536)
def V6 (x : Int) : Int := IntKind.u64.wrap (x + x / 4294967296)
def V7 (x : Int) : Int := bits .and .i64 (wrap64 x) 127
set_option maxHeartbeats 1000000 in
theorem ones_walk (x : Int) (W : World) : Calls Try.prog 52 #[.int .u64 x] W fun e w' => e = .returned (.int .i64 (V7 (V6 (V5 (V4 (V3 (V2 (V1 x)))))))) ∧ w' = W := by
  go_enter Try.func52, Try.ntmps52
  go_wp2
  go_ret
  exact ⟨rfl, rfl⟩
theorem bits_and {a m : Nat} (ha : a < 18446744073709551616) (hm : m < 18446744073709551616) : bits .and .u64 (a : Int) (m : Int) = ((a &&& m : Nat) : Int) := by
  show IntKind.u64.wrap ((BitVec.ofInt 64 (a : Int) &&& BitVec.ofInt 64 (m : Int)).toNat : Int) = _
  rw [BitVec.ofInt_natCast, BitVec.ofInt_natCast, BitVec.toNat_and, BitVec.toNat_ofNat, BitVec.toNat_ofNat, Nat.mod_eq_of_lt ha, Nat.mod_eq_of_lt hm]
  have h1 : a &&& m ≤ m := Nat.and_le_right
  exact Go.Vm.wrap_u64 (by omega) (by omega)
theorem bits_and7 {a : Nat} (ha : a < 9223372036854775808) : bits .and .i64 (a : Int) 127 = ((a % 128 : Nat) : Int) := by
  show IntKind.i64.wrap ((BitVec.ofInt 64 (a : Int) &&& BitVec.ofInt 64 ((127 : Nat) : Int)).toNat : Int) = _
  rw [BitVec.ofInt_natCast, BitVec.ofInt_natCast, BitVec.toNat_and, BitVec.toNat_ofNat, BitVec.toNat_ofNat, Nat.mod_eq_of_lt (by omega), Nat.mod_eq_of_lt (by omega), show (127 : Nat) = 2 ^ 7 - 1 from rfl, Nat.and_two_pow_sub_one_eq_mod]
  have h1 : a % 2 ^ 7 < 128 := Nat.mod_lt _ (by omega)
  exact Go.Vm.wrap_i64 (by omega) (by omega)
theorem V1_eq {n : Nat} (h : n < 18446744073709551616) : V1 (n : Int) = (w1 n : Nat) ∧ w1 n < 18446744073709551616 := by
  have h1 : n / 2 &&& 6148914691236517205 ≤ 6148914691236517205 := Nat.and_le_right
  have h2 : n &&& 6148914691236517205 ≤ 6148914691236517205 := Nat.and_le_right
  have e1 : bits .and .u64 ((n : Int) / 2) 6148914691236517205 = ((n / 2 &&& 6148914691236517205 : Nat) : Int) := bits_and (a := n / 2) (m := 6148914691236517205) (by omega) (by omega)
  have e2 : bits .and .u64 (n : Int) 6148914691236517205 = ((n &&& 6148914691236517205 : Nat) : Int) := bits_and (a := n) (m := 6148914691236517205) (by omega) (by omega)
  rw [V1, w1, e1, e2, Go.Vm.wrap_u64 (by omega) (by omega)]
  omega
theorem V2_eq {n : Nat} (h : n < 18446744073709551616) : V2 (n : Int) = (w2 n : Nat) ∧ w2 n ≤ 7378697629483820646 := by
  have h1 : n / 4 &&& 3689348814741910323 ≤ 3689348814741910323 := Nat.and_le_right
  have h2 : n &&& 3689348814741910323 ≤ 3689348814741910323 := Nat.and_le_right
  have e1 : bits .and .u64 ((n : Int) / 4) 3689348814741910323 = ((n / 4 &&& 3689348814741910323 : Nat) : Int) := bits_and (a := n / 4) (m := 3689348814741910323) (by omega) (by omega)
  have e2 : bits .and .u64 (n : Int) 3689348814741910323 = ((n &&& 3689348814741910323 : Nat) : Int) := bits_and (a := n) (m := 3689348814741910323) (by omega) (by omega)
  rw [V2, w2, e1, e2, Go.Vm.wrap_u64 (by omega) (by omega)]
  omega
theorem V3_eq {n : Nat} (h : n ≤ 7378697629483820646) : V3 (n : Int) = (w3 n : Nat) ∧ w3 n ≤ 1085102592571150095 := by
  have e1 : IntKind.u64.wrap ((n : Int) / 16 + n) = ((n / 16 + n : Nat) : Int) := by rw [Go.Vm.wrap_u64 (by omega) (by omega)]; omega
  rw [V3, w3, e1]
  exact ⟨bits_and (m := 1085102592571150095) (by omega) (by omega), Nat.and_le_right⟩
theorem V456_eq {n : Nat} (h : n ≤ 1085102592571150095) : V6 (V5 (V4 (n : Int))) = (w6 (w5 (w4 n)) : Nat) ∧ w6 (w5 (w4 n)) < 9223372036854775808 := by
  have e1 : V4 (n : Int) = (w4 n : Nat) := by rw [V4, w4, Go.Vm.wrap_u64 (by omega) (by omega)]; omega
  have b1 : w4 n ≤ 1089341274592834275 := by rw [w4]; omega
  obtain ⟨a, ha⟩ : ∃ a, a = w4 n := ⟨_, rfl⟩
  rw [← ha] at e1 b1
  have e2 : V5 (a : Int) = (w5 a : Nat) := by rw [V5, w5, Go.Vm.wrap_u64 (by omega) (by omega)]; omega
  have b2 : w5 a ≤ 1089357900000000000 := by rw [w5]; omega
  obtain ⟨b, hb⟩ : ∃ b, b = w5 a := ⟨_, rfl⟩
  rw [← hb] at e2 b2
  have e3 : V6 (b : Int) = (w6 b : Nat) := by rw [V6, w6, Go.Vm.wrap_u64 (by omega) (by omega)]; omega
  rw [e1, e2, e3, ← ha, ← hb]
  exact ⟨rfl, by rw [w6]; omega⟩
theorem ones_eq {x : Int} (h : InU x) : V7 (V6 (V5 (V4 (V3 (V2 (V1 x)))))) = (pcI x : Nat) := by
  obtain ⟨n, rfl⟩ : ∃ n : Nat, x = n := ⟨x.toNat, by have := h.1; omega⟩
  have h2 := h.2
  obtain ⟨e1, b1⟩ := V1_eq (n := n) (by omega)
  obtain ⟨e2, b2⟩ := V2_eq b1
  obtain ⟨e3, b3⟩ := V3_eq b2
  obtain ⟨e4, b4⟩ := V456_eq b3
  have e5 : wrap64 ((w6 (w5 (w4 (w3 (w2 (w1 n))))) : Nat) : Int) = ((w6 (w5 (w4 (w3 (w2 (w1 n))))) : Nat) : Int) := by rw [wrap64]; omega
  rw [e1, e2, e3, e4, V7, e5, bits_and7 b4]
  show ((swar n : Nat) : Int) = ((pc 64 (n : Int).toNat : Nat) : Int)
  rw [swar_eq, Int.toNat_natCast]
theorem ones_calls {x : Int} (W : World) (h : InU x) : Calls Try.prog 52 #[.int .u64 x] W fun e w' => e = .returned (.int .i64 (pcI x : Nat)) ∧ w' = W :=
  (ones_walk x W).mono fun e w' ⟨h1, h2⟩ => ⟨by rw [h1, ones_eq h], h2⟩
theorem cmp_calls {x y : Int} (W : World) (hx : InU x) (hy : InU y) : Calls Try.prog 51 #[.int .u64 x, .int .u64 y] W fun e w' => e = .returned (.int .i64 ((pcI x : Int) - pcI y)) ∧ ∃ q, w' = W.drewN q := by
  have b1 := pcI_le x
  have b2 := pcI_le y
  have hc : ∀ z W', InU z → Calls Try.prog 52 #[.int .u64 z] W' fun e w' => e = .returned (.int .i64 (pcI z : Nat)) ∧ w' = W' := fun z W' h => ones_calls W' h
  generalize pcI = p at hc b1 b2 ⊢
  go_enter Try.func51, Try.ntmps51
  go_wp2_with (go_at_call 52; refine (hc _ _ (by assumption)).mono ?_; rintro e w' ⟨rfl, rfl⟩)
  go_ret
  exact ⟨rfl, 0, rfl⟩
/-- Labels. -/
abbrev U := { z : Int // InU z }
instance : Inhabited U := ⟨⟨0, by unfold InU; omega⟩⟩
def encU (z : U) : Value := .int .u64 z.1
def cfU (x y : U) : Int := (pcI x.1 : Int) - pcI y.1
theorem swoU : SWO (ltOf cfU) where
  irrefl x := by unfold ltOf cfU; simp
  trans x y z h1 h2 := by unfold ltOf cfU at *; simp at *; omega
  ntrans x y z h1 h2 := by unfold ltOf cfU at *; simp at *; omega
noncomputable def toU (z : Int) : U := @dite _ (InU z) (Classical.propDecidable _) (fun h => ⟨z, h⟩) (fun _ => default)
theorem toU_val {z : Int} (h : InU z) : (toU z).1 = z := by rw [toU, dif_pos h]
noncomputable def arrU (xs : List Go.Vm.D) : Array U := (xs.map fun d => toU d.int).toArray
noncomputable def pdqU (xs : List Go.Vm.D) : Array U := pdq (ltOf cfU) (arrU xs) 0 (arrU xs).size (Go.Lib.bitLen (arrU xs).size) true true
noncomputable def srtF (xs : List Go.Vm.D) : List Go.Vm.D := (pdqU xs).toList.map fun u => .I u.1
theorem pdqU_ok (xs : List Go.Vm.D) : PermIn 0 (arrU xs).size (arrU xs) (pdqU xs) ∧ SortedIn (ltOf cfU) 0 (arrU xs).size (pdqU xs) :=
  pdq_sorts (ltOf cfU) swoU (arrU xs) 0 (arrU xs).size (Go.Lib.bitLen (arrU xs).size) true true (Nat.zero_le _) (Nat.le_refl _) (Or.inl rfl)
theorem pdqU_size (xs : List Go.Vm.D) : (pdqU xs).size = xs.length := by
  rw [(pdqU_ok xs).1.1]; simp [arrU]
theorem srtF_sorts : SortsF srtF := fun xs hxs => by
  obtain ⟨⟨h1, _, h3⟩, h4⟩ := pdqU_ok xs
  have hs : (arrU xs).size = xs.length := by simp [arrU]
  rw [Array.extract_size] at h3
  rw [← h1, Array.extract_size] at h3
  have e1 : ints (srtF xs) = (pdqU xs).toList.map Subtype.val := by
    rw [ints, srtF, List.map_map]; rfl
  have e2 : (arrU xs).toList.map Subtype.val = ints xs := by
    rw [arrU, List.map_map, ints]
    refine List.map_congr_left fun d hd => toU_val (hxs d hd)
  refine ⟨?_, ?_⟩
  · rw [e1, ← e2]; exact h3.map _
  · rw [e1, List.pairwise_iff_getElem]
    intro i j hi hj hij
    rw [List.length_map] at hi hj
    rw [List.getElem_map, List.getElem_map]
    have h := h4 i j (Nat.zero_le _) hij (by rw [← h1]; simpa using hj)
    rw [getElem!_pos _ _ (by simpa using hj), getElem!_pos _ _ (by simpa using hi)] at h
    unfold ltOf cfU at h
    simp only [decide_eq_false_iff_not, Int.not_lt] at h
    show pcI ((pdqU xs).toList[i]).1 ≤ pcI ((pdqU xs).toList[j]).1
    rw [Array.getElem_toList, Array.getElem_toList]
    omega
theorem cmpU (b n : Nat) (w : World) : CmpLays1 Try.prog 51 #[] encU cfU b 0 n w :=
  CmpReads.lays fun _ _ _ _ x y => cmp_calls _ x.2 y.2
theorem encU_at {xs : List Go.Vm.D} (hxs : ∀ d, d ∈ xs → InU d.int) {j : Nat} (hj : j < xs.length) : encU (arrU xs)[j]! = .int .u64 (xs.getD j .Z).int := by
  rw [getElem!_pos _ _ (by simpa [arrU] using hj)]
  simp only [arrU, List.getElem_toArray, List.getElem_map, encU]
  rw [toU_val (hxs _ (List.getElem_mem hj)), List.getD_eq_getElem?_getD, List.getElem?_eq_getElem hj]; rfl
theorem srtF_at {xs : List Go.Vm.D} {j : Nat} (hj : j < xs.length) : ((srtF xs).getD j .Z).int = ((pdqU xs)[j]!).1 := by
  rw [getElem!_pos _ _ (by rw [pdqU_size]; exact hj)]
  simp [srtF, List.getD_eq_getElem?_getD, pdqU_size, hj]
theorem srtF_len (xs : List Go.Vm.D) : (srtF xs).length = xs.length := by rw [srtF, List.length_map, Array.length_toList, pdqU_size]
open Go.Vm in
theorem sortF_ok : MutOK Try.prog 50 (mSF srtF) := by
  intro g w x xs ds v0 vs hg hgx hO h0 ha hpre
  have hv : vs = [.func (.func 51) #[] #[]] := by
    match vs, ha with
    | [], h => exact absurd h (by simp [MArgs, mSF])
    | [v], h => simp only [mSF, MArgs] at h; rw [h.1]
    | _ :: _ :: _, h => 
      cases ds <;> simp [MArgs, mSF] at h
  subst hv
  have l0 : loc1 x 0 = some x := by simp [loc1]
  rw [run_callFunc Try.func50 rfl (by decide)]
  show Calls Try.prog 50 #[v0, .func (.func 51) #[] #[]] w _
  rcases hO with ⟨hl, hx⟩ | ⟨b, cap, T, cs, hl, hh, hc, hn, hr⟩
  · subst hx
    obtain ⟨us, hu, rfl⟩ := h0
    simp only [HC] at hu
    obtain ⟨a, rfl⟩ : ∃ a, us = [.slice a 0 0] := by
      rcases hu with ⟨_, a, h⟩ | ⟨b, cap, len, h, _⟩
      · exact ⟨a, h⟩
      · rw [hl] at h; cases h
    have hcon := AnyF.slices_SortFunc_none (P := Try.prog) (ρ := sortRen) { sortL with } a 0 (.func (.func 51) #[] #[]) w
    refine hcon.mono ?_
    rintro e w' ⟨rfl, rfl⟩
    refine ⟨_, rfl, Nat.le_refl _, fun _ _ _ => rfl, ⟨rfl, rfl⟩, ⟨g, .inl ⟨hl, ?_⟩⟩, ⟨g, [], by simp [mSF, HVs], rfl⟩⟩
    exact List.eq_nil_of_length_eq_zero (srtF_len [])
  · obtain ⟨us, hu, rfl⟩ := h0
    simp only [HC] at hu
    have e0 : us = [.slice (some ⟨b, 0, none⟩) xs.length cap] := by
      rcases hu with ⟨h, _⟩ | ⟨b', cap', len, h, h2⟩
      · rw [hl] at h; cases h
      · rw [hl] at h
        simp only [Option.some.injEq, Place.at.injEq] at h
        obtain ⟨rfl, rfl, rfl, _⟩ := h
        exact h2
    subst e0
    have hxb : x = .at b cap xs.length (.arr xs.length u64) := by rw [l0] at hl; exact Option.some.inj hl
    have hc : cap * 1 ≤ cs.size := hc
    have hr : ∀ j, j < xs.length → cs[j]? = some (.int .u64 (xs.getD j .Z).int) ∧ InU (xs.getD j .Z).int := fun j hj => by
      have h := hr j hj
      simp only [mSF, Rel, Sh.size, Nat.mul_one] at h
      refine ⟨?_, h.2⟩
      have h1 := congrArg (fun l => l[0]?) h.1
      simpa [chunk, List.getElem?_take, List.getElem?_drop] using h1
    have hxs : ∀ d, d ∈ xs → InU d.int := fun d hd => by
      obtain ⟨j, hj, rfl⟩ := mem_getD hd
      exact (hr j hj).2
    have hb : b < w.heap.size := (Array.getElem?_eq_some_iff.1 hh).1
    have hpre : xs.length ≤ 64 := hpre
    have hsz : (arrU xs).size = xs.length := by simp [arrU]
    have hH : Holds encU w b 0 (arrU xs) := by
      intro j hj
      rw [hsz] at hj
      rw [encU_at hxs hj, Nat.zero_add]
      refine ⟨?_, by simp [World.frozen?, hh]⟩
      simp only [World.cell?, hh, Option.isSome_none, Bool.false_eq_true, if_false]
      exact (hr j hj).1
    have eg : ∀ args w, (callFunc 51 args).run Try.prog w = .ok (.enter 51 args) w := fun args w => run_callFunc Try.func51 rfl (by decide) args w
    have hcon := Any.slices_SortFunc_eq sortL encU (fun _ => rfl) cfU swoU 51 #[] b 0 cap (arrU xs) w eg (cmpU _ _ _) hH hb (by rw [hsz]; omega)
    rw [hsz] at hcon
    refine hcon.mono ?_
    rintro e w' ⟨rfl, n, os, rfl⟩
    have hp : pdq (ltOf cfU) (arrU xs) 0 xs.length (Go.Lib.bitLen xs.length) true true = pdqU xs := by rw [pdqU, hsz]
    rw [hp]
    unfold sortWorld
    have hb' : b < (putRow encU (Go.Sort.ahead w n) b 0 (pdqU xs)).heap.size := by simpa using hb
    have hget : (grow (putRow encU (Go.Sort.ahead w n) b 0 (pdqU xs)) os).heap[b]? = some (.cells (putCells encU 0 (pdqU xs) cs) T (0, 0)) := by
      rw [heap_grow_old _ _ hb']
      simp [putRow, mapBlock, Go.Sort.ahead, Array.getElem?_modify, hh, onCells]
    refine ⟨_, rfl, ?_, fun k hk hne => ?_, ⟨rfl, rfl⟩, ⟨g, .inr ⟨b, cap, T, putCells encU 0 (pdqU xs) cs, ?_, hget, ?_, ?_, fun j hj => ?_⟩⟩, ⟨g, [], by simp [mSF, HVs], rfl⟩⟩
    · show w.heap.size ≤ ((putRow encU (Go.Sort.ahead w n) b 0 (pdqU xs)).heap ++ os).size
      rw [Array.size_append]; simp [putRow, mapBlock, Go.Sort.ahead]
    · rw [heap_grow_old _ _ (by simpa using hk)]
      have : b ≠ k := fun e => hne (by rw [hxb, e]; rfl)
      simp [putRow, mapBlock, Go.Sort.ahead, Array.getElem?_modify, this]
    · show loc1 x 0 = some (.at b cap (srtF xs).length (.arr (srtF xs).length u64))
      rw [srtF_len]; exact hl
    · show cap * 1 ≤ (putCells encU 0 (pdqU xs) cs).size
      simpa [putCells] using hc
    · show (srtF xs).length ≤ _
      rw [srtF_len]; exact hn
    · have hj' : j < xs.length := by
        have : j < (srtF xs).length := hj
        rwa [srtF_len] at this
      have hjc : j < cs.size := by
        have := (hr j hj').1
        exact (Array.getElem?_eq_some_iff.1 this).1
      show Rel g u64 ((srtF xs).getD j .Z) (chunk (putCells encU 0 (pdqU xs) cs).toList (j * 1) 1)
      simp only [Rel, Nat.mul_one]
      rw [srtF_at hj']
      refine ⟨?_, ((pdqU xs)[j]!).2⟩
      have h1 : (putCells encU 0 (pdqU xs) cs)[j]? = some (encU (pdqU xs)[j]!) := by
        simp [putCells, hjc, pdqU_size, hj']
      have hjp : j < (putCells encU 0 (pdqU xs) cs).size := by simpa [putCells] using hjc
      rw [Array.getElem?_eq_getElem hjp] at h1
      rw [chunk, List.drop_eq_getElem_cons (by simpa using hjp), List.take_succ_cons, List.take_zero, Array.getElem_toList, Option.some.inj h1]; rfl
theorem cHe0OK : Go.Vm.CtxOK Try.prog ⟨tabL, refsL, [(33, sFam), (41, sBelow)], [(49, Try.f49), (46, Try.f46)], keep, mpsL⟩ :=
  Go.Vm.CtxOK.of tabLOK refsLOK (.cons (Go.Vm.sumOK_of_vc (c := cL0) (ctxL .nil) mixed Try.func33 rfl (by decide) @fam_fun) (.cons (Go.Vm.sumOK_of_vc (c := cL0) (ctxL .nil) mixed Try.func41 rfl (by decide) @below_fun) .nil)) (.cons Try.func49 rfl (by decide) (.cons Try.func46 rfl (by decide) .nil)) mpsLOK
theorem height_ok : Go.Vm.SumOK Try.prog 26 sHgt := Go.Vm.sumOK_of_vc (c := cHe srtF) (cHe0OK.withM sortF_ok) mixed Try.func26 rfl (by decide) (@height_fun srtF srtF_sorts)
end Go.Proofs.Ytohgdncglegjmaa
