/- The library's sort by a function, of events, told of the program. -/
import Derived.Shelf.SlSortCmp.NoneTotal
import Derived.Test.YtmdhmjidmiemmaaWQe
namespace Go.Proofs.Ytmdhmjidmiemmaa
open Go Go.Shelf Go.RowKit Go.Lib Go.Sort Rg
set_option linter.unusedSimpArgs false
set_option linter.unusedVariables false
set_option maxRecDepth 10000
/-- The numbers of the library's sort here. -/
def sortF : Nat → Nat
  | 6 => 45
  | 14 => 69
  | 15 => 70
  | 20 => 87
  | 21 => 88
  | 22 => 89
  | 23 => 90
  | 24 => 91
  | 25 => 92
  | 26 => 93
  | 27 => 94
  | 28 => 95
  | 29 => 96
  | 46 => 101
  | 47 => 102
  | 48 => 103
  | 49 => 104
  | 50 => 105
  | 57 => 106
  | n => n
def sortT : Nat → Nat
  | 0 => 0
  | 3 => 3
  | 4 => 4
  | 5 => 5
  | 9 => 9
  | 22 => 36
  | 25 => 92
  | 39 => 123
  | 45 => 148
  | 46 => 149
  | 50 => 153
  | 53 => 156
  | 55 => 23
  | 66 => 162
  | 70 => 166
  | 76 => 168
  | 77 => 169
  | 24 => 44
  | n => n
def sortRen : Go.Shelf.Ren := ⟨sortF, sortT, fun n => n⟩
theorem sortL : SlLaysF0.n6 Try.prog sortRen where
  mixed := mixed
  f6 := ⟨ "slices.SortFunc[[]partywall/api.Stored,partywall/api.Stored]", by decide, Try.func45.trans (by kernel_rfl)⟩
  f14 := ⟨ "slices.pdqsortCmpFunc[partywall/api.Stored]", by decide, Try.func69.trans (by kernel_rfl)⟩
  f15 := Try.func70.trans (by kernel_rfl)
  f20 := ⟨ "slices.insertionSortCmpFunc[partywall/api.Stored]", by decide, Try.func87.trans (by kernel_rfl)⟩
  f21 := ⟨ "slices.heapSortCmpFunc[partywall/api.Stored]", by decide, Try.func88.trans (by kernel_rfl)⟩
  f22 := ⟨ "slices.breakPatternsCmpFunc[partywall/api.Stored]", by decide, Try.func89.trans (by kernel_rfl)⟩
  f23 := ⟨ "slices.choosePivotCmpFunc[partywall/api.Stored]", by decide, Try.func90.trans (by kernel_rfl)⟩
  f24 := ⟨ "slices.reverseRangeCmpFunc[partywall/api.Stored]", by decide, Try.func91.trans (by kernel_rfl)⟩
  f25 := ⟨ "slices.partialInsertionSortCmpFunc[partywall/api.Stored]", by decide, Try.func92.trans (by kernel_rfl)⟩
  f26 := ⟨ "slices.partitionEqualCmpFunc[partywall/api.Stored]", by decide, Try.func93.trans (by kernel_rfl)⟩
  f27 := ⟨ "slices.partitionCmpFunc[partywall/api.Stored]", by decide, Try.func94.trans (by kernel_rfl)⟩
  f28 := Try.func95.trans (by kernel_rfl)
  f29 := Try.func96.trans (by kernel_rfl)
  f46 := ⟨ "slices.siftDownCmpFunc[partywall/api.Stored]", by decide, Try.func101.trans (by kernel_rfl)⟩
  f47 := Try.func102.trans (by kernel_rfl)
  f48 := Try.func103.trans (by kernel_rfl)
  f49 := ⟨ "slices.medianAdjacentCmpFunc[partywall/api.Stored]", by decide, Try.func104.trans (by kernel_rfl)⟩
  f50 := ⟨ "slices.medianCmpFunc[partywall/api.Stored]", by decide, Try.func105.trans (by kernel_rfl)⟩
  f57 := ⟨ "slices.order2CmpFunc[partywall/api.Stored]", by decide, Try.func106.trans (by kernel_rfl)⟩
  t0 := Try.underlying0
  a0 := Try.isAgg0
  z0 := Try.sizeOf0
  v0 := Try.zeroValue0
  t3 := Try.underlying3
  a3 := Try.isAgg3
  z3 := Try.sizeOf3
  v3 := Try.zeroValue3
  t4 := Try.underlying4
  a4 := Try.isAgg4
  z4 := Try.sizeOf4
  v4 := Try.zeroValue4
  t5 := Try.underlying5
  a5 := Try.isAgg5
  z5 := Try.sizeOf5
  v5 := Try.zeroValue5
  t9 := Try.underlying9
  a9 := Try.isAgg9
  z9 := Try.sizeOf9
  v9 := Try.zeroValue9
  t22 := Try.underlying36
  a22 := Try.isAgg36
  z22 := Try.sizeOf36
  v22 := Try.zeroValue36
  t25 := Try.underlying92
  a25 := Try.isAgg92
  z25 := Try.sizeOf92
  v25 := Try.zeroValue92
  t39 := Try.underlying123
  a39 := Try.isAgg123
  z39 := Try.sizeOf123
  v39 := Try.zeroValue123
  t45 := Try.underlying148
  a45 := Try.isAgg148
  z45 := Try.sizeOf148
  v45 := Try.zeroValue148
  t46 := Try.underlying149
  a46 := Try.isAgg149
  z46 := Try.sizeOf149
  v46 := Try.zeroValue149
  t50 := Try.underlying153
  a50 := Try.isAgg153
  z50 := Try.sizeOf153
  v50 := Try.zeroValue153
  t53 := Try.underlying156
  a53 := Try.isAgg156
  z53 := Try.sizeOf156
  v53 := Try.zeroValue156
  t55 := Try.underlying23
  a55 := Try.isAgg23
  z55 := Try.sizeOf23
  v55 := Try.zeroValue23
  t66 := Try.underlying162
  a66 := Try.isAgg162
  z66 := Try.sizeOf162
  v66 := Try.zeroValue162
  t70 := Try.underlying166
  a70 := Try.isAgg166
  z70 := Try.sizeOf166
  v70 := Try.zeroValue166
  t76 := Try.underlying168
  a76 := Try.isAgg168
  z76 := Try.sizeOf168
  v76 := Try.zeroValue168
  t77 := Try.underlying169
  a77 := Try.isAgg169
  z77 := Try.sizeOf169
  v77 := Try.zeroValue169
def encS (d : Go.Vm.D) : List Value := [.int .u64 (lbS d), .int .u64 (noS d), .int .u64 (keyO d), .int .u64 (tkO d), .int .i64 (d.nth 3).int, .int .i64 (d.nth 4).int]
def vO (v : Value) : Int := match v with | .int _ x => x | _ => 0
theorem rel_enc {g : Go.Vm.Ghost} {d : Go.Vm.D} {vs : List Value} : Go.Vm.Rel g storedS d vs ↔ vs = encS d ∧ Go.Vm.InR storedS d := by
  constructor
  · intro h
    refine ⟨?_, h.inR⟩
    have hl := h.length
    match vs, hl with
    | [a, b, c, e, f, i], _ =>
      simp only [Go.Vm.Rel, Go.Vm.Rels, Go.Vm.Sh.size, Go.Vm.Sh.sizes, List.take_succ_cons, List.take_zero, List.drop_succ_cons, List.drop_zero, List.cons.injEq, and_true, Nat.reduceAdd] at h
      obtain ⟨_, ⟨_, ⟨h1, _⟩, _, ⟨h2, _⟩⟩, _, ⟨h3, _⟩, _, ⟨h4, _⟩, _, ⟨h5, _⟩, _, ⟨h6, _⟩⟩ := h
      subst h1 h2 h3 h4 h5 h6
      rfl
  · rintro ⟨rfl, h⟩
    simp only [Go.Vm.InR, Go.Vm.InRs] at h
    obtain ⟨⟨h1, h2, _⟩, h3, h4, h5, h6, _⟩ := h
    simp only [Go.Vm.Rel, Go.Vm.Rels, Go.Vm.Sh.size, Go.Vm.Sh.sizes, encS, List.take_succ_cons, List.take_zero, List.drop_succ_cons, List.drop_zero, List.cons.injEq, and_true, Nat.reduceAdd, List.length_cons, List.length_nil]
    refine ⟨by omega, ⟨by omega, ⟨rfl, h1⟩, by omega, rfl, h2⟩, by omega, ⟨rfl, h3⟩, by omega, ⟨rfl, h4⟩, by omega, ⟨trivial, h5⟩, by omega, trivial, h6⟩
/-- Events. -/
abbrev S6 := { d : Go.Vm.D // Go.Vm.InR storedS d }
theorem d0_inr : Go.Vm.InR storedS (Go.Vm.D0 storedS) := by
  simp only [Go.Vm.InR, Go.Vm.InRs, Go.Vm.D0, Go.Vm.D0s, Go.Vm.D.nth, Go.Vm.D.int]
  decide
instance : Inhabited S6 := ⟨⟨Go.Vm.D0 storedS, d0_inr⟩⟩
def enc6 (z : S6) : List Value := encS z.1
def cf6 (x y : S6) : Int := if keyO x.1 < keyO y.1 then -1 else 1
theorem lt6 (x y : S6) : ltOf cf6 x y = decide (keyO x.1 < keyO y.1) := by
  unfold ltOf cf6
  by_cases h : keyO x.1 < keyO y.1 <;> simp [h]
theorem swo6 : SWO (ltOf cf6) where
  irrefl x := by rw [lt6]; simp
  trans x y z h1 h2 := by rw [lt6] at *; simp at *; omega
  ntrans x y z h1 h2 := by rw [lt6] at *; simp at *; omega
set_option maxHeartbeats 1000000 in
theorem cmp6_calls (a b c d e f a' b' c' d' e' f' : Int) (W : World) : Calls Try.prog 46 #[.agg #[.int .u64 a, .int .u64 b, .int .u64 c, .int .u64 d, .int .i64 e, .int .i64 f], .agg #[.int .u64 a', .int .u64 b', .int .u64 c', .int .u64 d', .int .i64 e', .int .i64 f']] W fun e w' => e = .returned (.int .i64 (if c < c' then -1 else 1)) ∧ ∃ q os', w' = grow (W.drewN q) os' := by
  go_enter Try.func46, Try.ntmps46
  go_wp2
  all_goals
    go_ret
    exact ⟨rfl, 0, _, by rw [alloc_eq_grow, alloc_eq_grow, grow_grow]; rfl⟩
theorem cmpLays6 (b n : Nat) (w : World) : CmpLays Try.prog 46 #[] enc6 6 cf6 b 0 n w :=
  fun _ _ _ _ x y => cmp6_calls _ _ _ _ _ _ _ _ _ _ _ _ _
noncomputable def toS (d : Go.Vm.D) : S6 := @dite _ (Go.Vm.InR storedS d) (Classical.propDecidable _) (fun h => ⟨d, h⟩) (fun _ => default)
theorem toS_val {d : Go.Vm.D} (h : Go.Vm.InR storedS d) : (toS d).1 = d := by rw [toS, dif_pos h]
noncomputable def arrS (xs : List Go.Vm.D) : Array S6 := (xs.map toS).toArray
noncomputable def pdqS (xs : List Go.Vm.D) : Array S6 := pdq (ltOf cf6) (arrS xs) 0 (arrS xs).size (Go.Lib.bitLen (arrS xs).size) true true
noncomputable def srtQ (xs : List Go.Vm.D) : List Go.Vm.D := (pdqS xs).toList.map Subtype.val
theorem pdqS_ok (xs : List Go.Vm.D) : PermIn 0 (arrS xs).size (arrS xs) (pdqS xs) ∧ SortedIn (ltOf cf6) 0 (arrS xs).size (pdqS xs) :=
  pdq_sorts (ltOf cf6) swo6 (arrS xs) 0 (arrS xs).size (Go.Lib.bitLen (arrS xs).size) true true (Nat.zero_le _) (Nat.le_refl _) (Or.inl rfl)
theorem arrS_size (xs : List Go.Vm.D) : (arrS xs).size = xs.length := by simp [arrS]
theorem pdqS_size (xs : List Go.Vm.D) : (pdqS xs).size = xs.length := by
  rw [(pdqS_ok xs).1.1, arrS_size]
theorem srtQ_len (xs : List Go.Vm.D) : (srtQ xs).length = xs.length := by rw [srtQ, List.length_map, Array.length_toList, pdqS_size]
/-- What the library's sort makes of events. -/
theorem srtQ_srt {xs : List Go.Vm.D} (hxs : ∀ d, d ∈ xs → Go.Vm.InR storedS d) (hn : (xs.map keyO).Nodup) : srtQ xs = srt keyO xs := by
  obtain ⟨⟨h1, _, h3⟩, h4⟩ := pdqS_ok xs
  rw [Array.extract_size] at h3
  rw [← h1, Array.extract_size] at h3
  have e2 : (arrS xs).toList.map Subtype.val = xs := by
    rw [arrS, List.map_map]
    conv => rhs; rw [← List.map_id xs]
    exact List.map_congr_left fun d hd => toS_val (hxs d hd)
  refine srt_eq hn ?_ ?_
  · have := h3.map Subtype.val
    rw [e2] at this; exact this
  · rw [SortK, List.pairwise_iff_getElem]
    intro i j hi hj hij
    rw [srtQ, List.length_map] at hi hj
    have h := h4 i j (Nat.zero_le _) hij (by rw [← h1]; simpa using hj)
    rw [getElem!_pos _ _ (by simpa using hj), getElem!_pos _ _ (by simpa using hi), lt6] at h
    simp only [decide_eq_false_iff_not, Int.not_lt] at h
    simp only [srtQ, List.getElem_map, Array.getElem_toList]
    exact h
theorem arrS_at {xs : List Go.Vm.D} (hxs : ∀ d, d ∈ xs → Go.Vm.InR storedS d) {j : Nat} (hj : j < xs.length) : enc6 (arrS xs)[j]! = encS (xs.getD j .Z) := by
  rw [getElem!_pos _ _ (by rw [arrS_size]; exact hj)]
  simp only [arrS, List.getElem_toArray, List.getElem_map, enc6]
  rw [toS_val (hxs _ (List.getElem_mem hj)), List.getD_eq_getElem?_getD, List.getElem?_eq_getElem hj]; rfl
theorem srtQ_at {xs : List Go.Vm.D} {j : Nat} (hj : j < xs.length) : (srtQ xs).getD j .Z = ((pdqS xs)[j]!).1 := by
  rw [getElem!_pos _ _ (by rw [pdqS_size]; exact hj)]
  simp [srtQ, List.getD_eq_getElem?_getD, pdqS_size, hj]
theorem encS_len (d : Go.Vm.D) : (encS d).length = 6 := rfl
theorem chunk6 {l : List Value} {j : Nat} {d : Go.Vm.D} : Go.Vm.chunk l (j * 6) 6 = encS d ↔ ∀ r, r < 6 → l[j * 6 + r]? = (encS d)[r]? := by
  constructor
  · intro h r hr
    rw [← h, Go.Vm.chunk, List.getElem?_take, if_pos hr, List.getElem?_drop]
  · intro h
    apply List.ext_getElem?
    intro r
    rw [Go.Vm.chunk, List.getElem?_take, List.getElem?_drop]
    by_cases hr : r < 6
    · rw [if_pos hr, h r hr]
    · rw [if_neg hr, List.getElem?_eq_none (by rw [encS_len]; omega)]
def mSQ (F : List Go.Vm.D → List Go.Vm.D) : Go.Vm.MSum := ⟨storedS, [.fn 46], fun xs _ => some (xs.length ≤ 1000000), fun _ _ => .tup [], fun xs _ => F xs⟩
open Go.Vm in
theorem sortQ_ok : MutOK Try.prog (45) (mSQ srtQ) := by
  intro g w x xs ds v0 vs hg hgx hO h0 ha hpre
  have hv : vs = [.func (.func 46) #[] #[]] := by
    match vs, ha with
    | [], h => exact absurd h (by simp [MArgs, mSQ])
    | [v], h => simp only [mSQ, MArgs] at h; rw [h.1]
    | _ :: _ :: _, h => 
      cases ds <;> simp [MArgs, mSQ] at h
  subst hv
  have l0 : loc1 x 0 = some x := by simp [loc1]
  rw [run_callFunc Try.func45 rfl (by decide)]
  show Calls Try.prog 45 #[v0, .func (.func 46) #[] #[]] w _
  rcases hO with ⟨hl, hx⟩ | ⟨b, cap, T, cs, hl, hh, hc, hn, hr⟩
  · subst hx
    obtain ⟨us, hu, rfl⟩ := h0
    simp only [HC] at hu
    obtain ⟨a, rfl⟩ : ∃ a, us = [.slice a 0 0] := by
      rcases hu with ⟨_, a, h⟩ | ⟨b, cap, len, h, _⟩
      · exact ⟨a, h⟩
      · rw [hl] at h; cases h
    have hcon := AnyF.slices_SortFunc_none (P := Try.prog) (ρ := sortRen) sortL a 0 (.func (.func 46) #[] #[]) w
    refine hcon.mono ?_
    rintro e w' ⟨rfl, rfl⟩
    refine ⟨_, rfl, Nat.le_refl _, fun _ _ _ => rfl, ⟨rfl, rfl⟩, ⟨g, .inl ⟨hl, ?_⟩⟩, ⟨g, [], by simp [mSQ, HVs], rfl⟩⟩
    exact List.eq_nil_of_length_eq_zero (srtQ_len [])
  · obtain ⟨us, hu, rfl⟩ := h0
    simp only [HC] at hu
    have e0 : us = [.slice (some ⟨b, 0, none⟩) xs.length cap] := by
      rcases hu with ⟨h, _⟩ | ⟨b', cap', len, h, h2⟩
      · rw [hl] at h; cases h
      · rw [hl] at h
        simp only [Option.some.injEq, Place.at.injEq] at h
        obtain ⟨rfl, rfl, rfl, _⟩ := h
        exact h2
    subst e0
    have hxb : x = .at b cap xs.length (.arr xs.length storedS) := by rw [l0] at hl; exact Option.some.inj hl
    have hc : cap * 6 ≤ cs.size := hc
    have hr : ∀ j, j < xs.length → chunk cs.toList (j * 6) 6 = encS (xs.getD j .Z) ∧ InR storedS (xs.getD j .Z) := fun j hj => rel_enc.1 (hr j hj)
    have hxs : ∀ d, d ∈ xs → InR storedS d := fun d hd => by
      obtain ⟨j, hj, rfl⟩ := mem_getD hd
      exact (hr j hj).2
    have hb : b < w.heap.size := (Array.getElem?_eq_some_iff.1 hh).1
    have hpre : xs.length ≤ 1000000 := hpre
    have hsz := arrS_size xs
    have hH : HoldsK enc6 6 w b 0 (arrS xs) := by
      intro t ht
      rw [size_flatK, hsz] at ht
      have hj : t / 6 < xs.length := by omega
      rw [get_flatK enc6 6 _ t (by rw [hsz]; exact ht), arrS_at hxs hj, Nat.zero_add]
      refine ⟨?_, by simp [World.frozen?, hh]⟩
      simp only [World.cell?, hh, Option.isSome_none, Bool.false_eq_true, if_false]
      have h1 := chunk6.1 (hr _ hj).1 (t % 6) (by omega)
      rw [show t / 6 * 6 + t % 6 = t by omega, Array.getElem?_toList, List.getElem?_eq_getElem (by rw [encS_len]; omega)] at h1
      rw [h1, getElem!_pos _ _ (by rw [encS_len]; omega)]
      rfl
    have eg : ∀ args w, (callFunc 46 args).run Try.prog w = .ok (.enter 46 args) w := fun args w => run_callFunc Try.func46 rfl (by decide) args w
    have hcon := AnyQ.slices_SortFunc_eq sortL 6 Try.isAgg44 Try.sizeOf44 enc6 (fun _ => rfl) (fun x v hv => by
      simp only [enc6, encS, List.mem_cons, List.not_mem_nil, or_false] at hv
      rcases hv with rfl | rfl | rfl | rfl | rfl | rfl <;> rfl) cf6 swo6 46 #[] b 0 cap (arrS xs) w eg (cmpLays6 _ _ _) hH hb (by rw [hsz]; omega)
    rw [hsz] at hcon
    refine hcon.mono ?_
    rintro e w' ⟨rfl, n, os, rfl⟩
    have hp : pdq (ltOf cf6) (arrS xs) 0 xs.length (Go.Lib.bitLen xs.length) true true = pdqS xs := by rw [pdqS, hsz]
    rw [hp]
    unfold sortWorldK putRowK
    obtain ⟨F, hF⟩ : ∃ F, F = flatK enc6 6 (pdqS xs) := ⟨_, rfl⟩
    rw [← hF]
    have hFs : F.size = xs.length * 6 := by rw [hF, size_flatK, pdqS_size]
    have hb' : b < (putRow id (Go.Sort.ahead w n) b 0 F).heap.size := by simpa using hb
    have hget : (grow (putRow id (Go.Sort.ahead w n) b 0 F) os).heap[b]? = some (.cells (putCells id 0 F cs) T (0, 0)) := by
      rw [heap_grow_old _ _ hb']
      simp [putRow, mapBlock, Go.Sort.ahead, Array.getElem?_modify, hh, onCells]
    refine ⟨_, rfl, ?_, fun k hk hne => ?_, ⟨rfl, rfl⟩, ⟨g, .inr ⟨b, cap, T, putCells id 0 F cs, ?_, hget, ?_, ?_, fun j hj => ?_⟩⟩, ⟨g, [], by simp [mSQ, HVs], rfl⟩⟩
    · show w.heap.size ≤ ((putRow id (Go.Sort.ahead w n) b 0 F).heap ++ os).size
      rw [Array.size_append]; simp [putRow, mapBlock, Go.Sort.ahead]
    · rw [heap_grow_old _ _ (by simpa using hk)]
      have : b ≠ k := fun e => hne (by rw [hxb, e]; rfl)
      simp [putRow, mapBlock, Go.Sort.ahead, Array.getElem?_modify, this]
    · show loc1 x 0 = some (.at b cap (srtQ xs).length (.arr (srtQ xs).length storedS))
      rw [srtQ_len]; exact hl
    · show cap * 6 ≤ (putCells id 0 F cs).size
      simpa [putCells] using hc
    · show (srtQ xs).length ≤ _
      rw [srtQ_len]; exact hn
    · have hj' : j < xs.length := by
        have : j < (srtQ xs).length := hj
        rwa [srtQ_len] at this
      show Rel g storedS ((srtQ xs).getD j .Z) (chunk (putCells id 0 F cs).toList (j * 6) 6)
      rw [srtQ_at hj']
      refine rel_enc.2 ⟨chunk6.2 fun r hr6 => ?_, ((pdqS xs)[j]!).2⟩
      have hn : xs.length ≤ min cap 9223372036854775807 := hn
      have ht : j * 6 + r < cs.size := by omega
      rw [Array.getElem?_toList]
      have h1 : (putCells id 0 F cs)[j * 6 + r]? = some F[j * 6 + r]! := by
        simp only [putCells, Array.getElem?_mapIdx, Array.getElem?_eq_getElem ht, Option.map_some]
        rw [if_pos ⟨Nat.zero_le _, by omega⟩]; rfl
      rw [h1, hF, get_flatK enc6 6 _ _ (by rw [pdqS_size]; omega), show (j * 6 + r) / 6 = j by omega, show (j * 6 + r) % 6 = r by omega]
      rw [getElem!_pos _ _ (by rw [enc6, encS_len]; exact hr6), List.getElem?_eq_getElem (by rw [encS_len]; exact hr6)]
      rfl
end Go.Proofs.Ytmdhmjidmiemmaa
