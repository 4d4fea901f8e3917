/- Accounts of rings: the law RingAgain. -/
import Derived.Test.YtlmokgfjfogdoaaGu
namespace Go.Proofs.Ytlmokgfjfogdoaa
open Go Go.Vm
set_option linter.unusedSimpArgs false
set_option maxRecDepth 10000
/-! ### Data that can't be told apart are equal, and the other way round -/
mutual
theorem eqD_of_same : ∀ {s : Sh} {a b : D}, s.flat = true → Same s a b → eqD s a b = true
  | .int _, _, _, _, h => by simp only [Same] at h; simp [eqD, h]
  | .bool, _, _, _, h => by simp only [Same] at h; simp [eqD, h]
  | .str, a, b, _, h => by
    simp only [Same] at h
    have hb : ∀ x : ByteArray, (x == x) = true := fun ⟨x⟩ => by show (x == x) = true; simp
    simp only [eqD, h]; exact hb _
  | .struct ss, _, _, hf, h => by simp only [Same] at h; simp only [eqD]; exact eqDs_of_sames (by simpa [Sh.flat] using hf) h
  | .arr n s, _, _, hf, h => by
    simp only [Same] at h
    simp only [eqD, List.all_eq_true, List.mem_range]
    exact fun j hj => eqD_of_same (by simpa [Sh.flat] using hf) (h j hj)
  | .slice s, _, _, hf, _ => by simp [Sh.flat] at hf
  | .ref, _, _, hf, _ => by simp [Sh.flat] at hf
theorem eqDs_of_sames : ∀ {ss : List Sh} {i : Nat} {a b : D}, Sh.flats ss = true → Sames ss i a b → eqDs ss i a b = true
  | [], _, _, _, _, _ => by simp [eqDs]
  | s :: ss, _, _, _, hf, h => by
    simp only [Sh.flats, Bool.and_eq_true] at hf
    simp only [Sames] at h
    simp only [eqDs, Bool.and_eq_true]
    exact ⟨eqD_of_same hf.1 h.1, eqDs_of_sames hf.2 h.2⟩
end
theorem same_stored {a b : D} (h : eqD storedS a b = true) : Same storedS a b := by
  simp only [eqD, eqDs, Bool.and_eq_true, Bool.and_true, beq_iff_eq] at h
  simp only [Same, Sames]
  simp only [and_true]
  obtain ⟨⟨h1, h2⟩, h3, h4, h5, h6⟩ := h
  exact ⟨⟨h1, h2⟩, h3, h4, h5, h6⟩
theorem evF_congr {l no : Int} {x b x' b' : D} (hx : Same storedS x x') (h1 : (b.nth 1).int = (b'.nth 1).int) (h2 : (b.nth 2).int = (b'.nth 2).int) : evF l no x b = evF l no x' b' := by
  simp only [Same, Sames, and_true] at hx
  obtain ⟨⟨e1, e2⟩, e3, e4, e5, e6⟩ := hx
  have e : eqD idS (x.nth 0) (idD l no) = eqD idS (x'.nth 0) (idD l no) := by simp only [eqD, eqDs, e1, e2]
  simp only [evF, e, e3, e4, e5, h1, h2]

/-! ### A ring, made again -/
def newQ (l s : D) : D := if ltB s.int 1 || ltB 64 s.int then D0 ringS else .L [l, s, .I 1, .I 1, D0 (.arr 64 storedS)]
def sNew3 : Sum := ⟨[u64, i64], fun _ => none, fun
  | [l, s] => .tup [.dat ringS (newQ l s), .dat i64 (.I (nwE s.int))]
  | _ => .und⟩
theorem new_ok3 : SumOK Try.prog 21 sNew3 := new_ok
def agD (r : D) (i : Nat) (x : D) : D := newD x ((evAt r i).nth 1).int ((evAt r i).nth 2).int ((evAt r i).nth 3).int ((evAt r i).nth 4).int
def agX (x0 r : D) : Nat → D
  | 0 => x0
  | i + 1 => putD (agX x0 r i) (agD r i (agX x0 r i))
structure AgInv (r x : D) (i : Nat) : Prop where
  ok : chk x = 0
  lab : (x.nth 0).int = (r.nth 0).int
  siz : (x.nth 1).int = (r.nth 1).int
  fst : (x.nth 2).int = (r.nth 2).int
  nxt : (x.nth 3).int = (r.nth 2).int + i
  plc : ∀ j, j < 64 → Same storedS ((x.nth 4).nth j) (if used r i j = true then (r.nth 4).nth j else D0 storedS)
theorem used_pl {r : D} {i k : Nat} (h : k < i) : used r i (pl r k) = true := used_iff.2 ⟨k, h, rfl⟩
theorem agInv_cap {r x : D} {i : Nat} (h : AgInv r x i) : cap x = i := by
  unfold cap; rw [h.nxt, h.fst]; omega
theorem agInv_pl {r x : D} {i : Nat} (h : AgInv r x i) (k : Nat) : pl x k = pl r k := by unfold pl; rw [h.siz, h.fst]
theorem ag_step {r x : D} {i : Nat} (hr : chk r = 0) (h : AgInv r x i) (hi : i < cap r) :
    putE x ((evAt r i).nth 1).int ((evAt r i).nth 2).int ((evAt r i).nth 3).int ((evAt r i).nth 4).int = 0 ∧ AgInv r (putD x (agD r i x)) (i + 1) := by
  obtain ⟨hb, he, hz⟩ := chk_ok.1 hr
  have hb' := badR_false hb
  obtain ⟨hc1, hc, hc2⟩ := cap_le hb
  have hcx := agInv_cap h
  have hev := evF_zero (he i hi)
  have hn := h.nxt
  have hSame : Same storedS (agD r i x) (evAt r i) := by
    simp only [Same, Sames, agD, newD, idD, D.nth_L, List.getD_cons_zero, List.getD_cons_succ, D.int_I, and_true]
    rw [h.lab, hn]
    exact ⟨hev.1.symm, hev.2.1.symm⟩
  have hbef : ((bef x (cap x)).nth 1).int = ((bef r i).nth 1).int ∧ ((bef x (cap x)).nth 2).int = ((bef r i).nth 2).int := by
    rw [hcx]
    cases i with
    | zero => exact ⟨rfl, rfl⟩
    | succ k =>
      have h1 := h.plc (pl r k) (pl_lt hb (by omega))
      rw [used_pl (by omega), if_pos rfl] at h1
      have e : (x.nth 4).nth (pl r k) = evAt x k := by unfold evAt; rw [agInv_pl h]
      rw [e] at h1
      simp only [Same, Sames, and_true] at h1
      exact ⟨h1.2.1, h1.2.2.1⟩
  have hE : evF (x.nth 0).int (x.nth 3).int (agD r i x) (bef x (cap x)) = 0 := by
    rw [evF_congr hSame hbef.1 hbef.2, h.lab, hn]
    exact he i hi
  have hs := h.siz
  refine ⟨(put_tail _ _ _ _ h.ok hE ?_).1, ?_⟩
  · simp only [Bool.or_eq_false_iff, ltB_false, beq_eq_false_iff_ne, ne_eq]; omega
  refine { ok := chk_putD h.ok (by omega) (by omega) hE, lab := h.lab, siz := h.siz, fst := h.fst, nxt := ?_, plc := ?_ }
  · rw [(putD_0 x (agD r i x)).2.2.2]; omega
  · intro j hj
    have e : (placeI (x.nth 1).int (x.nth 3).int).toNat = pl r i := by unfold pl; rw [h.siz, hn]
    rw [putD_4, e, used_succ]
    by_cases hj2 : j = pl r i
    · subst hj2
      simp only [if_true, beq_self_eq_true, Bool.or_true]
      exact hSame
    · have e2 : (pl r i == j) = false := by simp; omega
      rw [if_neg hj2, e2, Bool.or_false]
      exact h.plc j hj
theorem ag_all {r x0 : D} (hr : chk r = 0) (h0 : AgInv r x0 0) : ∀ i, i ≤ cap r → AgInv r (agX x0 r i) i
  | 0, _ => h0
  | i + 1, hi => (ag_step hr (ag_all hr h0 i (by omega)) (by omega)).2
theorem ag_end {r x : D} (hr : chk r = 0) (h : AgInv r x (cap r)) : eqD ringS x r = true := by
  obtain ⟨hb, he, hz⟩ := chk_ok.1 hr
  obtain ⟨hc1, hc, hc2⟩ := cap_le hb
  refine eqD_of_same rfl ?_
  have hn := h.nxt
  simp only [Same, Sames, and_true, Nat.zero_add, Nat.reduceAdd]
  refine ⟨h.lab, h.siz, h.fst, by omega, fun j hj => ?_⟩
  have h1 := h.plc j hj
  cases hu : used r (cap r) j with
  | true => rw [hu, if_pos rfl] at h1; simpa only [Same, Sames, and_true, Nat.zero_add, Nat.reduceAdd] using h1
  | false =>
    rw [hu] at h1
    simp only [Bool.false_eq_true, if_false] at h1
    have h2 := hz j hj hu
    unfold nz at h2
    simp only [Bool.not_eq_false'] at h2
    have h3 := same_stored h2
    simp only [Same, Sames, and_true, Nat.zero_add, Nat.reduceAdd] at h1 h3 ⊢
    omega
def agX0 (r : D) : D := D.puts ringS (D.puts ringS (newQ (.I (r.nth 0).int) (.I (r.nth 1).int)) [.fld 2] (.I (r.nth 2).int)) [.fld 3] (.I (r.nth 2).int)
theorem ag_first {r : D} (hr : chk r = 0) : AgInv r (agX0 r) 0 := by
  obtain ⟨hb, he, hz⟩ := chk_ok.1 hr
  have hb' := badR_false hb
  have e : (ltB (r.nth 1).int 1 || ltB 64 (r.nth 1).int) = false := by simp only [Bool.or_eq_false_iff, ltB_false]; omega
  have hX : agX0 r = D.puts ringS (D.puts ringS (.L [.I (r.nth 0).int, .I (r.nth 1).int, .I 1, .I 1, D0 (.arr 64 storedS)]) [.fld 2] (.I (r.nth 2).int)) [.fld 3] (.I (r.nth 2).int) := by
    simp only [agX0, newQ, D.int_I, e, Bool.false_eq_true, if_false]
  rw [hX]
  refine { ok := chk_ok.2 ⟨?_, ?_, ?_⟩, lab := rfl, siz := rfl, fst := rfl, nxt := by show (r.nth 2).int = _; simp, plc := fun j hj => Same.rfl }
  · show (ltB (r.nth 1).int 1 || ltB 64 (r.nth 1).int || ltB (r.nth 2).int 1 || ltB (r.nth 2).int (r.nth 2).int || ltB 1099511627777 (r.nth 2).int || ltB (IntKind.u64.wrap (r.nth 1).int) (IntKind.u64.wrap ((r.nth 2).int - (r.nth 2).int))) = false
    rw [wrap_u64 (n := (r.nth 1).int) (by omega) (by omega), wrap_u64 (n := (r.nth 2).int - (r.nth 2).int) (by omega) (by omega)]
    simp only [Bool.or_eq_false_iff, ltB_false]; omega
  · intro k hk
    have : cap (D.puts ringS (D.puts ringS (.L [.I (r.nth 0).int, .I (r.nth 1).int, .I 1, .I 1, D0 (.arr 64 storedS)]) [.fld 2] (.I (r.nth 2).int)) [.fld 3] (.I (r.nth 2).int)) = 0 := by
      show ((r.nth 2).int - (r.nth 2).int).toNat = 0
      omega
    omega
  · intro j hj _
    show (!eqD storedS (D0 storedS) (D0 storedS)) = false
    rw [eqStored]; rfl
theorem frL_all {r : D} (h : chk r = 0) : frL r 0 = lst r (cap r) := by
  simp only [frL, h, ne_eq, not_true, if_false]
  exact fromL_zero (chk_bad h)
def cAgain : Ctx := ⟨tabM, [], [(32, sMade2), (5, sTrue), (21, sNew3), (25, sPut), (11, sListP2)], [], keep, []⟩
def sAgain : Sum := ⟨[i64, .slice i64], fun _ => none, fun _ => .dat .bool (.B true)⟩
theorem again_fun : FunOK cAgain 100 Try.f8 sAgain := fun s _ l _ _ => by
  have I := made_all s.int l.list
  have hI : chk (mR s.int l.list) = 0 := I.ok
  obtain ⟨hb, he, hz⟩ := chk_ok.1 hI
  have hb' := badR_false hb
  obtain ⟨hc1, hc, hc2⟩ := cap_le hb
  have hnw : nwE ((mR s.int l.list).nth 1).int = 0 := by
    have e : (ltB ((mR s.int l.list).nth 1).int 1 || ltB 64 ((mR s.int l.list).nth 1).int) = false := by simp only [Bool.or_eq_false_iff, ltB_false]; omega
    simp only [nwE, e]; rfl
  have hfl := frL_all hI
  have h0 := ag_first hI
  refine ⟨fun h1 => ?_, fun h1 => ?_⟩
  · exfalso
    simp only [D.int_I, D.bool_B, D.gets_nil, D.gets_fld, List.nil_append, hnw, hI] at h1
    simp at h1
  clear h1
  refine ⟨by kernel_rfl, { x : Nat × D // x.1 ≤ cap (mR s.int l.list) ∧ x.2 = agX (agX0 (mR s.int l.list)) (mR s.int l.list) x.1 }, 18, fun x => ([(13, .dat i64 (.I x.1.1)), (11, .ptr 1 ringS [] ringS), (9, .dat (.slice storedS) (.L (lst (mR s.int l.list) (cap (mR s.int l.list))))), (6, .ptr 0 ringS [] ringS), (5, .dat .bool (.B true))],
    [(1, .box ringS (.dat ringS x.1.2)), (0, .box ringS (.dat ringS (mR s.int l.list)))]), fun x => cap (mR s.int l.list) - x.1.1, ⟨(0, agX0 (mR s.int l.list)), by omega, rfl⟩, ⟨[], rfl, ⟨rfl, rfl, slotD ?_, rfl, slotB ?_, trivial⟩, ⟨bx ?_, bx ?_, trivial⟩⟩, ?_⟩
  · simp only [D.int_I, D.gets_nil]; rw [hfl]
  · rfl
  · simp only [D.int_I, D.gets_nil, D.gets_fld, List.nil_append, agX0]
  · simp only [D.int_I]
  intro x
  obtain ⟨⟨i, X⟩, hi, hX⟩ := x
  simp only at hi hX
  have hinv := ag_all hI h0 i hi
  rw [← hX] at hinv
  have hlt : ltB (i : Int) ((lst (mR s.int l.list) (cap (mR s.int l.list))).length : Int) = true → i < cap (mR s.int l.list) := by
    intro h; rw [lst_len] at h; simp only [ltB_true] at h; omega
  have hge : ltB (i : Int) ((lst (mR s.int l.list) (cap (mR s.int l.list))).length : Int) = false → i = cap (mR s.int l.list) := by
    intro h; rw [lst_len] at h; simp only [ltB_false] at h; omega
  have hx : i < cap (mR s.int l.list) → (lst (mR s.int l.list) (cap (mR s.int l.list))).getD (i : Int).toNat .Z = evAt (mR s.int l.list) i := by
    intro h
    rw [Int.toNat_natCast, List.getD_eq_getElem?_getD]
    exact lst_get _ _ _ h
  have hpre : ltB (i : Int) ((lst (mR s.int l.list) (cap (mR s.int l.list))).length : Int) = true → 0 ≤ (i : Int) ∧ (i : Int) < ((lst (mR s.int l.list) (cap (mR s.int l.list))).length : Int) := by
    intro h; simp only [ltB_true] at h; omega
  refine ⟨fun h1 => ⟨hpre h1, hpre h1, hpre h1, hpre h1, by kernel_rfl, fun h2 => ?_, fun h2 => ?_⟩, fun h1 => Bears.bool ?_⟩
  · exfalso
    replace h2 : (putE X (((lst (mR s.int l.list) (cap (mR s.int l.list))).getD (i : Int).toNat D.Z).nth 1).int (((lst (mR s.int l.list) (cap (mR s.int l.list))).getD (i : Int).toNat D.Z).nth 2).int
      (((lst (mR s.int l.list) (cap (mR s.int l.list))).getD (i : Int).toNat D.Z).nth 3).int (((lst (mR s.int l.list) (cap (mR s.int l.list))).getD (i : Int).toNat D.Z).nth 4).int != 0) = true := h2
    have h := hlt h1
    rw [hx h, (ag_step hI hinv h).1] at h2
    simp at h2
  · have h := hlt h1
    have hS := ag_step hI hinv h
    refine ⟨⟨(i + 1, putD X (agD (mR s.int l.list) i X)), by show i + 1 ≤ _; omega, by rw [hX]; rfl⟩, ⟨[], rfl, ⟨slot (i64_1 (n := i) (by omega)), rfl, rfl, rfl, rfl, trivial⟩, ⟨bx ?_, rfl, trivial⟩⟩, by show _ - (i + 1) < _ - i; omega⟩
    show putR X (((lst (mR s.int l.list) (cap (mR s.int l.list))).getD (i : Int).toNat D.Z).nth 1).int (((lst (mR s.int l.list) (cap (mR s.int l.list))).getD (i : Int).toNat D.Z).nth 2).int
      (((lst (mR s.int l.list) (cap (mR s.int l.list))).getD (i : Int).toNat D.Z).nth 3).int (((lst (mR s.int l.list) (cap (mR s.int l.list))).getD (i : Int).toNat D.Z).nth 4).int = putD X (agD (mR s.int l.list) i X)
    rw [hx h, putR, if_neg (by simp [hS.1])]
    rfl
  · have e := hge h1
    show (true && eqD ringS X (mR s.int l.list)) = true
    rw [e] at hinv
    rw [ag_end hI hinv]; rfl
theorem again_ok : SumOK Try.prog 8 sAgain := sumOK_of_vc (c := cAgain) (ctxMOK (.cons made_ok2 (.cons known_ok (.cons new_ok3 (.cons put_ok' (.cons list_ok2 .nil)))))) mixed Try.func8 rfl (by decide) @again_fun
end Go.Proofs.Ytlmokgfjfogdoaa
