/- Events' bytes: the reader, both Parses. -/
import Derived.Test.YtpfpgjkbnjnjnaaWMd
namespace Go.Proofs.Ytpfpgjkbnjnjnaa
open Go Go.Vm Rg
set_option linter.unusedSimpArgs false
set_option linter.unusedVariables false
set_option maxRecDepth 10000
abbrev faultS : Sh := .struct [i64, i64]
abbrev wireS : Sh := .struct [.str, i64, faultS]
def tabW : List (Nat × Sh) := [(9, .str), (5, .int .u8), (89, .slice (.int .u8)), (44, faultS), (126, wireS), (129, .struct [wireS, eventS]), (169, .struct [wireS])] ++ tabM
theorem tabWOK : tabB Try.prog tabW = true := by kernel_rfl
theorem ctxW {l : List (Nat × Sum)} (h : SumsOK Try.prog l) : CtxOK Try.prog ⟨tabW, refsM, l, [], keep, mpsM⟩ := CtxOK.of tabWOK refsMOK h FunsOK.nil mpsMOK
def c0W : Ctx := ⟨tabW, refsM, [], [], keep, mpsM⟩
def numL (l : List D) : Int := l.foldl (fun n d => bitsOp .or .u64 (shl .u64 n 8) (IntKind.u64.wrap d.int)) 0
def sNumW : Sum := ⟨[.str], fun _ => none, fun
  | [s] => .dat u64 (.I (numL (strL s.str)))
  | _ => .und⟩
theorem take_succ {l : List D} {i : Nat} (h : i < l.length) : l.take (i + 1) = l.take i ++ [l.getD i .Z] := by
  rw [List.take_add_one, List.getD_eq_getElem?_getD, List.getElem?_eq_getElem h]; rfl
theorem num_take {l : List D} {i : Nat} (h : i < l.length) : numL (l.take (i + 1)) = bitsOp .or .u64 (shl .u64 (numL (l.take i)) 8) (IntKind.u64.wrap (l.getD i .Z).int) := by
  rw [take_succ h, numL, List.foldl_append]; rfl
theorem strL_at {s : ByteArray} {i : Nat} (h : i < s.size) : ((strL s).getD i .Z).int = strAt s i := by
  have h1 : i < (strL s).length := by rw [strL_length]; exact h
  have h2 : i < s.data.toList.length := by rw [Array.length_toList]; exact h
  rw [List.getD_eq_getElem?_getD, List.getElem?_eq_getElem h1]
  have e : (strL s)[i] = .I ((s.data.toList[i]).toNat : Int) := by simp only [strL, List.getElem_map]
  rw [Option.getD_some, e]
  have e2 : s[(i : Int).toNat]? = some s[i] := by
    rw [Int.toNat_natCast]; exact getElem?_pos s i h
  rw [strAt, e2]; rfl
theorem numW_fun : FunOK c0W 60 Try.f90 sNumW := fun s hs _ => by
  have hl : (strL s.str).length ≤ 9223372036854775807 := by rw [strL_length]; exact hs
  generalize hX : strL s.str = X at hl
  refine ⟨{ i : Nat // i ≤ X.length }, 0, fun i => ([(9, .dat i64 (.I i.1)), (8, .dat i64 (.I X.length)), (7, .dat (.slice (.int .u8)) (.L X)), (3, .dat u64 (.I (numL (X.take i.1)))), (2, .dat u64 (.I 0)), (0, .dat .str s)], []), fun i => X.length - i.1,
    ⟨0, Nat.zero_le _⟩, ⟨[], rfl, ⟨rfl, slot (by rw [hX]; rfl), slotD (by rw [hX]), rfl, rfl, rfl, trivial⟩, trivial⟩, ?_⟩
  intro i
  obtain ⟨i, hi⟩ := i
  refine ⟨fun h1 => ⟨ix (ltN h1), by decide, ?_⟩, fun h1 => Bears.int ?_⟩
  · have h1 : i < X.length := ltN h1
    exact ⟨⟨i + 1, h1⟩, ⟨[], rfl, ⟨slot (i64_1 (n := i) (by omega)), rfl, rfl, slot (num_take h1).symm, rfl, rfl, trivial⟩, trivial⟩, stepLt h1⟩
  · show numL (X.take i) = numL (strL s.str)
    rw [geN hi h1, List.take_length, hX]
def wS (w : D) : ByteArray := (w.nth 0).str
def wA (w : D) : Int := (w.nth 1).int
def wE (w : D) : Int := ((w.nth 2).nth 0).int
def wF (w : D) : Int := ((w.nth 2).nth 1).int
/-- A right reader. -/
def okW (w : D) : Prop := 0 ≤ wA w ∧ wA w ≤ (wS w).size ∧ ((wE w = 0 ∧ wF w = 0) ∨ (1 ≤ wE w ∧ wE w ≤ 23 ∧ 0 ≤ wF w ∧ wF w ≤ (wS w).size))
def mkW (s : ByteArray) (a e f : Int) : D := .L [.S s, .I a, .L [.I e, .I f]]
def uiW (w : D) (n : Int) : D := if wE w ≠ 0 then w else if n > (wS w).size - wA w then mkW (wS w) (wA w) 5 (wA w) else mkW (wS w) (wA w + n) 0 0
def uiN (w : D) (n : Int) : Int := if wE w ≠ 0 then 0 else if n > (wS w).size - wA w then 0 else numL (strL ((wS w).extract (wA w).toNat (wA w + n).toNat))
def sUi : Sum := ⟨[wireS, i64], fun
  | [w, n] => some (okW w ∧ (n.int = 1 ∨ n.int = 8))
  | _ => none, fun
  | [w, n] => .tup [.dat wireS (uiW w n.int), .dat u64 (.I (uiN w n.int))]
  | _ => .und⟩
noncomputable def cUi : Ctx := ⟨tabW, refsM, [(90, sNumW)], [(67, Try.f67), (87, Try.f87), (68, Try.f68), (88, Try.f88), (89, Try.f89)], keep, mpsM⟩
theorem ui_1 {w : D} {n : Int} (h : wE w ≠ 0) : uiW w n = w ∧ uiN w n = 0 := ⟨if_pos h, if_pos h⟩
theorem ui_2 {w : D} {n : Int} (h : wE w = 0) (h2 : n > (wS w).size - wA w) : uiW w n = mkW (wS w) (wA w) 5 (wA w) ∧ uiN w n = 0 :=
  ⟨(if_neg fun h' => h' h).trans (if_pos h2), (if_neg fun h' => h' h).trans (if_pos h2)⟩
theorem ui_0 {w : D} {n : Int} (h : wE w = 0) (h2 : ¬ n > (wS w).size - wA w) : uiW w n = mkW (wS w) (wA w + n) 0 0 ∧ uiN w n = numL (strL ((wS w).extract (wA w).toNat (wA w + n).toNat)) :=
  ⟨(if_neg fun h' => h' h).trans (if_neg h2), (if_neg fun h' => h' h).trans (if_neg h2)⟩
theorem twoW {W : D} {N : Int} {w : D} {n : Int} (h : w = W ∧ n = N) : Bears wireS W w ∧ Bears u64 (.I N) (.I n) ∧ True := ⟨Bears.same (eqSame h.1.symm), Bears.int h.2.symm, trivial⟩
theorem absB {b : Bool} {p : Prop} (h1 : b = true) (h2 : (!b) = true) : p := by rw [h1] at h2; cases h2
theorem use1 {w : D} (h : okW w) (h0 : wE w = 0) : (leB 0 (wA w) && leB (wA w) (wS w).size && wF w == 0) = true := by
  have h1 : wF w = 0 := by rcases h.2.2 with h' | h' <;> omega
  simp only [Bool.and_eq_true, leB_true, beq_iff_eq]
  exact ⟨⟨h.1, h.2.1⟩, h1⟩
theorem use2 {w : D} (h : okW w) (h0 : wE w ≠ 0) : (leB 0 (wA w) && leB (wA w) (wS w).size && leB 1 (wE w) && leB (wE w) 23 && leB 0 (wF w) && leB (wF w) (wS w).size) = true := by
  simp only [Bool.and_eq_true, leB_true]
  rcases h.2.2 with h' | h'
  · exact absurd h'.1 h0
  · exact ⟨⟨⟨⟨⟨h.1, h.2.1⟩, h'.1⟩, h'.2.1⟩, h'.2.2.1⟩, h'.2.2.2⟩
theorem ui_fun : FunOK cUi 100 Try.f66 sUi := fun w hw n hn hp => by
  have hp : okW w ∧ (n.int = 1 ∨ n.int = 8) := hp
  obtain ⟨hw1, hn8⟩ := hp
  obtain ⟨ha0, ha1, hf⟩ := id hw1
  have hsz : (wS w).size ≤ 9223372036854775807 := hw.1
  have e0 : (n.int == 1 || n.int == 2 || n.int == 4 || n.int == 8) = true := by
    rcases hn8 with h | h <;> rw [h] <;> rfl
  have notF : ∀ {b : Bool}, (!b) = true → b = false := fun h => by simpa using h
  have rest : IntKind.i64.wrap ((wS w).size - wA w) = (wS w).size - wA w := wrap_i64 (by omega) (by omega)
  refine ⟨fun h1 => ⟨fun h2 => absB (use1 hw1 (eqT h1)) h2, fun h2 => ⟨fun h3 => absB e0 h3, fun h3 => ?_⟩⟩, fun h1 => ⟨fun h2 => absB (use2 hw1 (eqF h1)) h2, fun h2 => ⟨fun h3 => absB e0 h3, fun h3 => ?_⟩⟩⟩
  · have hE : wE w = 0 := eqT h1
    clear h1 h2 h3
    refine ⟨fun h1 => absurd hE (eqF (notF h1)), fun h1 => ⟨fun h2 => ?_, fun h2 => ⟨by kernel_rfl, fun h3 => ⟨fun h4 => ⟨fun h5 => ?_, fun h5 => ?_⟩, fun h4 => absurd hE (eqF h4)⟩, fun h3 => ⟨fun h4 => absurd hE (eqF (notF h4)), fun h4 => ?_⟩⟩⟩⟩
    · have h2 : ltB n.int 0 = true := h2
      simp only [ltB_true] at h2
      omega
    · have h3 : ltB (IntKind.i64.wrap ((wS w).size - wA w)) n.int = true := h3
      rw [rest, ltB_true] at h3
      have e := ui_2 hE h3
      refine ⟨by kernel_rfl, Bears.same ?_, Bears.int ?_, trivial⟩
      · rw [e.1]; exact ⟨rfl, rfl, ⟨rfl, rfl, trivial⟩, trivial⟩
      · rw [e.2]; rfl
    · have h5 : (!((5 : Int) == 0)) = false := h5
      cases h5
    · have h3 : ltB (IntKind.i64.wrap ((wS w).size - wA w)) n.int = false := h3
      rw [rest, ltB_false] at h3
      have e := ui_0 (n := n.int) hE (by omega)
      have e1 : IntKind.i64.wrap (wA w + n.int) = wA w + n.int := wrap_i64 (by omega) (by omega)
      have e2 : IntKind.i64.wrap (IntKind.i64.wrap (wA w + n.int) - n.int) = wA w := by rw [e1, wrap_i64 (by omega) (by omega)]; omega
      refine ⟨?_, by kernel_rfl, by kernel_rfl, Bears.same ?_, Bears.int ?_, trivial⟩
      · show 0 ≤ IntKind.i64.wrap (IntKind.i64.wrap (wA w + n.int) - n.int) ∧ IntKind.i64.wrap (IntKind.i64.wrap (wA w + n.int) - n.int) ≤ IntKind.i64.wrap (wA w + n.int) ∧ IntKind.i64.wrap (wA w + n.int) ≤ (wS w).size
        rw [e2, e1]; omega
      · show Same wireS (.L [w.nth 0, .I (IntKind.i64.wrap (wA w + n.int)), w.nth 2]) (uiW w n.int)
        rw [e.1, e1]
        refine ⟨rfl, rfl, ⟨hE, ?_, trivial⟩, trivial⟩
        show wF w = 0
        rcases hf with h | h <;> omega
      · show numL (strL ((wS w).extract (IntKind.i64.wrap (IntKind.i64.wrap (wA w + n.int) - n.int)).toNat (IntKind.i64.wrap (wA w + n.int)).toNat)) = uiN w n.int
        rw [e2, e1, e.2]
  · refine ⟨fun h4 => twoW (ui_1 (eqF h1)), fun h4 => ?_⟩
    have h4 : (!(wE w == 0)) = false := h4
    have h1 : (wE w == 0) = false := h1
    rw [h1] at h4; cases h4
def sRd : Sum := ⟨[.str], fun _ => none, fun
  | [s] => .dat wireS (mkW s.str 0 0 0)
  | _ => .und⟩
theorem rd_fun : FunOK c0W 60 Try.f44 sRd := fun s hs _ => by
  exact Bears.same ⟨rfl, rfl, ⟨rfl, rfl, trivial⟩, trivial⟩
def faW (w : D) (e f : Int) : D := if wE w ≠ 0 then w else mkW (wS w) (wA w) e (if (wS w).size < f then (wS w).size else f)
def sFa : Sum := ⟨[wireS, i64, i64], fun
  | [w, e, f] => some (okW w ∧ (1 ≤ e.int ∧ e.int ≤ 23) ∧ 0 ≤ f.int)
  | _ => none, fun
  | [w, e, f] => .dat wireS (faW w e.int f.int)
  | _ => .und⟩
theorem fa_fun : FunOK cUi 100 Try.f46 sFa := fun w hw e he f hf hp => by
  have hp : okW w ∧ (1 ≤ e.int ∧ e.int ≤ 23) ∧ 0 ≤ f.int := hp
  obtain ⟨hw1, hE, hF⟩ := hp
  have noE : ∀ {p : Prop}, (ltB e.int 1 || ltB 23 e.int) = true → p := fun h => by
    simp only [Bool.or_eq_true, ltB_true] at h; omega
  refine ⟨fun h1 => ⟨fun h2 => absB (use1 hw1 (eqT h1)) h2, fun h2 => ⟨fun h3 => noE h3, fun h3 => ⟨fun h4 => Bears.same ?_, fun h4 => absurd (eqT h1) (eqF h4)⟩⟩⟩, fun h1 => ⟨fun h2 => absB (use2 hw1 (eqF h1)) h2, fun h2 => ⟨fun h3 => noE h3, fun h3 => ⟨fun h4 => absurd (eqT h4) (eqF h1), fun h4 => Bears.same ?_⟩⟩⟩⟩
  · have e1 : faW w e.int f.int = mkW (wS w) (wA w) e.int (if (wS w).size < f.int then (wS w).size else f.int) := if_neg fun h => h (eqT h1)
    rw [e1]
    refine ⟨rfl, rfl, ⟨rfl, ?_, trivial⟩, trivial⟩
    show (if ((wS w).size : Int) < (if 0 > f.int then 0 else f.int) then ((wS w).size : Int) else if 0 > f.int then 0 else f.int) = if ((wS w).size : Int) < f.int then ((wS w).size : Int) else f.int
    rw [if_neg (show ¬ (0 > f.int) by omega)]
  · have e1 : faW w e.int f.int = w := if_pos (eqF h1)
    rw [e1]; exact Same.rfl
def enE (w : D) : Int := if wE w ≠ 0 then wE w else if wA w < (wS w).size then 4 else 0
def enF (w : D) : Int := if wE w ≠ 0 then wF w else if wA w < (wS w).size then wA w else 0
def sEn : Sum := ⟨[wireS], fun
  | [w] => some (okW w)
  | _ => none, fun
  | [w] => .dat faultS (.L [.I (enE w), .I (enF w)])
  | _ => .und⟩
theorem en_fun : FunOK cUi 100 Try.f47 sEn := fun w hw hp => by
  have hw1 : okW w := hp
  refine ⟨fun h1 => ⟨fun h2 => absB (use1 hw1 (eqT h1)) h2, fun h2 => ⟨by kernel_rfl, fun h3 => ⟨fun h4 => Bears.same ?_, fun h4 => absurd (eqT h1) (eqF h4)⟩, fun h3 => Bears.same ?_⟩⟩, fun h1 => ⟨fun h2 => absB (use2 hw1 (eqF h1)) h2, fun h2 => ⟨by kernel_rfl, fun h3 => ⟨fun h4 => absurd (eqT h4) (eqF h1), fun h4 => Bears.same ?_⟩, fun h3 => Bears.same ?_⟩⟩⟩
  · have h3 : ltB (wA w) (wS w).size = true := h3
    rw [ltB_true] at h3
    exact ⟨((if_neg fun h => h (eqT h1)).trans (if_pos h3)).symm, ((if_neg fun h => h (eqT h1)).trans (if_pos h3)).symm, trivial⟩
  · have h3 : ltB (wA w) (wS w).size = false := h3
    rw [ltB_false] at h3
    have e1 : wE w = 0 := eqT h1
    have e2 : wF w = 0 := by rcases hw1.2.2 with h | h <;> omega
    exact ⟨e1.trans ((if_neg fun h => h e1).trans (if_neg (by omega))).symm, e2.trans ((if_neg fun h => h e1).trans (if_neg (by omega))).symm, trivial⟩
  · exact ⟨(if_pos (eqF h1)).symm, (if_pos (eqF h1)).symm, trivial⟩
  · exact ⟨(if_pos (eqF h1)).symm, (if_pos (eqF h1)).symm, trivial⟩
/-! ### Parse -/
def prE (s : ByteArray) : Int := if s.size < 8 then 5 else if s.size < 9 then 5 else if 26 ≤ strAt s 8 then 11 else if s.size < 17 then 5 else if 17 < s.size then 4 else 0
def prF (s : ByteArray) : Int := if s.size < 8 then 0 else if s.size < 9 then 8 else if 26 ≤ strAt s 8 then 8 else if s.size < 17 then 9 else if 17 < s.size then 17 else 0
def prX (s : ByteArray) : D := .L [.I (numL (strL (s.extract 0 8))), .I (strAt s 8), .I (IntKind.i64.wrap (numL (strL (s.extract 9 s.size))))]
def prV (s : ByteArray) : D := if prE s ≠ 0 then D0 eventS else prX s
def sPr : Sum := ⟨[.str], fun _ => none, fun
  | [s] => .tup [.dat eventS (prV s.str), .dat faultS (.L [.I (prE s.str), .I (prF s.str)])]
  | _ => .und⟩
def cPrR : Ctx := ⟨tabW, refsM, [], [], keep, mpsM⟩
theorem pr_same {s : ByteArray} {E F : Int} {V : D} (hE : prE s = E) (hF : prF s = F) (h0 : E ≠ 0) (hV : V = D0 eventS) : Bears eventS V (prV s) ∧ Bears faultS (.L [.I E, .I F]) (.L [.I (prE s), .I (prF s)]) ∧ True :=
  ⟨Bears.same (eqSame (hV.trans (if_pos (by rw [hE]; exact h0)).symm)), Bears.same ⟨hE.symm, hF.symm, trivial⟩, trivial⟩
theorem strAt_lt (s : ByteArray) (i : Int) : 0 ≤ strAt s i ∧ strAt s i ≤ 255 := by
  unfold strAt
  split
  · rename_i b _
    have := b.toNat_lt
    omega
  · omega
theorem ok_new (s : ByteArray) : okW (mkW s 0 0 0) := ⟨Int.le_refl _, Int.natCast_nonneg _, .inl ⟨rfl, rfl⟩⟩
theorem ok_ui {w : D} {n : Int} (h : okW w) (hn : n = 1 ∨ n = 8) : okW (uiW w n) := by
  by_cases h1 : wE w = 0
  · by_cases h2 : n > (wS w).size - wA w
    · rw [(ui_2 h1 h2).1]
      exact ⟨h.1, h.2.1, .inr ⟨(show (1 : Int) ≤ 5 by decide), (show (5 : Int) ≤ 23 by decide), h.1, h.2.1⟩⟩
    · rw [(ui_0 h1 h2).1]
      have h3 := h.1
      exact ⟨(show 0 ≤ wA w + n by omega), (show wA w + n ≤ (wS w).size by omega), .inl ⟨rfl, rfl⟩⟩
  · rw [(ui_1 h1).1]; exact h
theorem ok_fa {w : D} {e f : Int} (h : okW w) (he : 1 ≤ e ∧ e ≤ 23) (hf : 0 ≤ f) : okW (faW w e f) := by
  by_cases h1 : wE w = 0
  · have e1 : faW w e f = mkW (wS w) (wA w) e (if (wS w).size < f then (wS w).size else f) := if_neg fun h => h h1
    rw [e1]
    refine ⟨h.1, h.2.1, .inr ⟨he.1, he.2, ?_⟩⟩
    show 0 ≤ (if ((wS w).size : Int) < f then ((wS w).size : Int) else f) ∧ (if ((wS w).size : Int) < f then ((wS w).size : Int) else f) ≤ (wS w).size
    split <;> omega
  · have e1 : faW w e f = w := if_pos h1
    rw [e1]; exact h
def pA (s : ByteArray) : D := uiW (mkW s 0 0 0) 8
def pAn (s : ByteArray) : Int := uiN (mkW s 0 0 0) 8
def pB (s : ByteArray) : D := uiW (pA s) 1
def pK (s : ByteArray) : Int := IntKind.i64.wrap (uiN (pA s) 1)
def pC (s : ByteArray) : Int := evC (.L [.I (pAn s), .I (pK s), .I 0])
def pD (s : ByteArray) : D := if pC s ≠ 0 then faW (pB s) 11 8 else pB s
def pF (s : ByteArray) : D := uiW (pD s) 8
def pFn (s : ByteArray) : Int := IntKind.i64.wrap (uiN (pD s) 8)
theorem ok_pA (s : ByteArray) : okW (pA s) := ok_ui (ok_new s) (.inr rfl)
theorem ok_pB (s : ByteArray) : okW (pB s) := ok_ui (ok_pA s) (.inl rfl)
theorem ok_pD (s : ByteArray) : okW (pD s) := by
  rw [pD]
  split
  · exact ok_fa (ok_pB s) (by decide) (by decide)
  · exact ok_pB s
theorem ok_pF (s : ByteArray) : okW (pF s) := ok_ui (ok_pD s) (.inr rfl)
theorem evC_of {a v k : Int} : evC (.L [.I a, .I k, .I v]) = if (ltB k 0 || leB 26 k) = true then 11 else 0 := rfl
theorem num_one {s : ByteArray} (h : 9 ≤ s.size) : numL (strL (s.extract 8 9)) = strAt s 8 := by
  have hb := strAt_lt s 8
  have e : strL (s.extract 8 9) = [(strL s).getD 8 .Z] := by
    have h1 : (s.extract 8 9).data.toList = (s.data.toList.drop 8).take 1 := by
      rw [ByteArray.data_extract, Array.toList_extract, List.extract_eq_take_drop]
    have h2 : strL (s.extract 8 9) = ((strL s).drop 8).take 1 := by
      simp only [strL, h1, List.map_drop, List.map_take]
    have h3 : 8 < (strL s).length := by rw [strL_length]; omega
    rw [h2, drop_cons h3]; rfl
  rw [e]
  have h4 : ((strL s).getD 8 .Z).int = strAt s 8 := strL_at (i := 8) (by omega)
  show bitsOp .or .u64 (shl .u64 0 8) (IntKind.u64.wrap ((strL s).getD 8 .Z).int) = strAt s 8
  rw [h4, wrap_u64 hb.1 (by omega)]
  have hall : ∀ n : Fin 256, bitsOp .or .u64 (shl .u64 0 8) (n.val : Int) = n.val := by decide +kernel
  have h5 := hall ⟨(strAt s 8).toNat, by omega⟩
  simp only at h5
  rw [Int.toNat_of_nonneg hb.1] at h5
  exact h5
theorem pr_ok (s : ByteArray) (hs : s.size ≤ 9223372036854775807) : enE (pF s) = prE s ∧ enF (pF s) = prF s ∧ (prE s = 0 → prX s = .L [.I (pAn s), .I (pK s), .I (pFn s)]) := by
  by_cases h8 : s.size < 8
  · have e1 := ui_2 (w := mkW s 0 0 0) (n := 8) rfl (by show (8 : Int) > s.size - 0; omega)
    have eA : pA s = mkW s 0 5 0 := e1.1
    have eB : pB s = mkW s 0 5 0 := by rw [pB, eA]; exact (ui_1 (w := mkW s 0 5 0) (show (5 : Int) ≠ 0 by decide)).1
    have eK : pK s = 0 := by rw [pK, eA, (ui_1 (w := mkW s 0 5 0) (show (5 : Int) ≠ 0 by decide)).2]; rfl
    have eC : pC s = 0 := by rw [pC, eK]; rfl
    have eD : pD s = mkW s 0 5 0 := by rw [pD, if_neg (fun h => h eC), eB]
    have eF : pF s = mkW s 0 5 0 := by rw [pF, eD]; exact (ui_1 (w := mkW s 0 5 0) (show (5 : Int) ≠ 0 by decide)).1
    have e5 : prE s = 5 := if_pos h8
    rw [eF, e5, show prF s = 0 from if_pos h8]
    exact ⟨rfl, rfl, fun h => by cases h⟩
  have e1 := ui_0 (w := mkW s 0 0 0) (n := 8) rfl (by show ¬ (8 : Int) > s.size - 0; omega)
  have eA : pA s = mkW s 8 0 0 := e1.1
  have eAn : pAn s = numL (strL (s.extract 0 8)) := e1.2
  by_cases h9 : s.size < 9
  · have e2 := ui_2 (w := mkW s 8 0 0) (n := 1) rfl (by show (1 : Int) > s.size - 8; omega)
    have eB : pB s = mkW s 8 5 8 := by rw [pB, eA]; exact e2.1
    have eK : pK s = 0 := by rw [pK, eA, e2.2]; rfl
    have eC : pC s = 0 := by rw [pC, eK]; rfl
    have eD : pD s = mkW s 8 5 8 := by rw [pD, if_neg (fun h => h eC), eB]
    have eF : pF s = mkW s 8 5 8 := by rw [pF, eD]; exact (ui_1 (w := mkW s 8 5 8) (show (5 : Int) ≠ 0 by decide)).1
    have e5 : prE s = 5 := (if_neg h8).trans (if_pos h9)
    rw [eF, e5, show prF s = 8 from (if_neg h8).trans (if_pos h9)]
    exact ⟨rfl, rfl, fun h => by cases h⟩
  have e2 := ui_0 (w := mkW s 8 0 0) (n := 1) rfl (by show ¬ (1 : Int) > s.size - 8; omega)
  have hb := strAt_lt s 8
  have eB : pB s = mkW s 9 0 0 := by rw [pB, eA]; exact e2.1
  have eK : pK s = strAt s 8 := by
    rw [pK, eA, e2.2]
    show IntKind.i64.wrap (numL (strL (s.extract 8 9))) = _
    rw [num_one (by omega), wrap_i64 (by omega) (by omega)]
  by_cases h26 : 26 ≤ strAt s 8
  · have eC : pC s = 11 := by
      rw [pC, eK, evC_of]
      exact if_pos (by rw [Bool.or_eq_true, leB_true]; exact .inr h26)
    have eD : pD s = mkW s 9 11 8 := by
      rw [pD, if_pos (by rw [eC]; decide), eB]
      have e3 : faW (mkW s 9 0 0) 11 8 = mkW s 9 11 (if (s.size : Int) < 8 then (s.size : Int) else 8) := if_neg fun h => h rfl
      rw [e3, if_neg (by omega)]
    have eF : pF s = mkW s 9 11 8 := by rw [pF, eD]; exact (ui_1 (w := mkW s 9 11 8) (show (11 : Int) ≠ 0 by decide)).1
    have e5 : prE s = 11 := (if_neg h8).trans ((if_neg h9).trans (if_pos h26))
    rw [eF, e5, show prF s = 8 from (if_neg h8).trans ((if_neg h9).trans (if_pos h26))]
    exact ⟨rfl, rfl, fun h => by cases h⟩
  have eC : pC s = 0 := by
    rw [pC, eK, evC_of]
    exact if_neg (by rw [Bool.or_eq_true, leB_true, ltB_true]; omega)
  have eD : pD s = mkW s 9 0 0 := by rw [pD, if_neg (fun h => h eC), eB]
  by_cases h17 : s.size < 17
  · have e4 := ui_2 (w := mkW s 9 0 0) (n := 8) rfl (by show (8 : Int) > s.size - 9; omega)
    have eF : pF s = mkW s 9 5 9 := by rw [pF, eD]; exact e4.1
    have e5 : prE s = 5 := (if_neg h8).trans ((if_neg h9).trans ((if_neg h26).trans (if_pos h17)))
    rw [eF, e5, show prF s = 9 from (if_neg h8).trans ((if_neg h9).trans ((if_neg h26).trans (if_pos h17)))]
    exact ⟨rfl, rfl, fun h => by cases h⟩
  have e4 := ui_0 (w := mkW s 9 0 0) (n := 8) rfl (by show ¬ (8 : Int) > s.size - 9; omega)
  have eF : pF s = mkW s 17 0 0 := by rw [pF, eD]; exact e4.1
  have eFn : pFn s = IntKind.i64.wrap (numL (strL (s.extract 9 17))) := by rw [pFn, eD, e4.2]; rfl
  by_cases h18 : 17 < s.size
  · have e5 : prE s = 4 := (if_neg h8).trans ((if_neg h9).trans ((if_neg h26).trans ((if_neg h17).trans (if_pos h18))))
    rw [eF, e5, show prF s = 17 from (if_neg h8).trans ((if_neg h9).trans ((if_neg h26).trans ((if_neg h17).trans (if_pos h18))))]
    have h18' : wA (mkW s 17 0 0) < ((wS (mkW s 17 0 0)).size : Int) := by show (17 : Int) < s.size; omega
    exact ⟨(if_neg fun h => h rfl).trans (if_pos h18'), (if_neg fun h => h rfl).trans (if_pos h18'), fun h => by cases h⟩
  · have e5 : prE s = 0 := (if_neg h8).trans ((if_neg h9).trans ((if_neg h26).trans ((if_neg h17).trans (if_neg h18))))
    rw [eF, e5, show prF s = 0 from (if_neg h8).trans ((if_neg h9).trans ((if_neg h26).trans ((if_neg h17).trans (if_neg h18))))]
    have h18' : ¬ wA (mkW s 17 0 0) < ((wS (mkW s 17 0 0)).size : Int) := by show ¬ (17 : Int) < s.size; omega
    refine ⟨(if_neg fun h => h rfl).trans (if_neg h18'), (if_neg fun h => h rfl).trans (if_neg h18'), fun _ => ?_⟩
    rw [prX, eAn, eK, eFn, show s.size = 17 by omega]
noncomputable def cPr : Ctx := ⟨tabW, refsM, [(44, sRd), (66, sUi), (46, sFa), (47, sEn), (27, sEvC)], [(45, Try.f45)], keep, mpsM⟩
theorem pr_fun : FunOK cPr 100 Try.f31 sPr := fun s hs _ => by
  have hs : s.str.size ≤ 9223372036854775807 := hs
  obtain ⟨H1, H2, H3⟩ := pr_ok s.str hs
  have hD1 : ∀ {b : Bool}, (pC s.str != 0) = b → b = true → pD s.str = faW (pB s.str) 11 8 := fun h hb => if_pos (bneT (h.trans hb))
  have hD2 : ∀ {b : Bool}, (pC s.str != 0) = b → b = false → pD s.str = pB s.str := fun h hb => if_neg fun h' => h' (bneF (h.trans hb))
  have fin1 : (enE (pF s.str) != 0) = true → Bears eventS (D0 eventS) (prV s.str) ∧ Bears faultS (.L [.I (enE (pF s.str)), .I (enF (pF s.str))]) (.L [.I (prE s.str), .I (prF s.str)]) ∧ True := fun h =>
    pr_same H1.symm H2.symm (bneT h) rfl
  have fin2 : (enE (pF s.str) != 0) = false → Bears eventS (.L [.I (pAn s.str), .I (pK s.str), .I (pFn s.str)]) (prV s.str) ∧ Bears faultS (.L [.I 0, .I 0]) (.L [.I (prE s.str), .I (prF s.str)]) ∧ True := fun h => by
    have e0 : prE s.str = 0 := H1 ▸ bneF h
    have e1 : prF s.str = 0 := by
      have h1 : enF (pF s.str) = 0 := by
        have h2 : enE (pF s.str) = 0 := bneF h
        unfold enE at h2
        unfold enF
        split at h2
        · rename_i h3; exact absurd h2 h3
        · rename_i h3
          rw [if_neg h3]
          split at h2
          · cases h2
          · rename_i h4; rw [if_neg h4]
      rw [← H2, h1]
    refine ⟨Bears.same (eqSame ?_), Bears.same ⟨e0.symm, e1.symm, trivial⟩, trivial⟩
    rw [prV, if_neg (fun h => h e0), H3 e0]
  refine ⟨⟨ok_new _, .inr rfl⟩, ⟨ok_pA _, .inl rfl⟩, fun h1 => ?_, fun h1 => ?_⟩
  · have e := hD1 h1 rfl
    have okD := ok_pD s.str
    have okF := ok_pF s.str
    rw [e] at okD
    rw [pF, e] at okF fin1 fin2
    rw [pFn, e] at fin2
    refine ⟨⟨ok_pB _, by decide, by decide⟩, ⟨okD, .inr rfl⟩, okF, fun h2 => ⟨by kernel_rfl, fin1 h2⟩, fun h2 => fin2 h2⟩
  · have e := hD2 h1 rfl
    have okD := ok_pD s.str
    have okF := ok_pF s.str
    rw [e] at okD
    rw [pF, e] at okF fin1 fin2
    rw [pFn, e] at fin2
    refine ⟨⟨okD, .inr rfl⟩, okF, fun h2 => ⟨by kernel_rfl, fin1 h2⟩, fun h2 => fin2 h2⟩
end Go.Proofs.Ytpfpgjkbnjnjnaa
