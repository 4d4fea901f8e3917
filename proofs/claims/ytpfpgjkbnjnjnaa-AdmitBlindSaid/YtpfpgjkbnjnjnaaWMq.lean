/- Gates in plain Lean: what a clearance sees of two of them. -/
import Derived.Test.YtpfpgjkbnjnjnaaWMm
namespace Go.Proofs.Ytpfpgjkbnjnjnaa
open Go Go.Vm Rg
set_option linter.unusedSimpArgs false
set_option linter.unusedVariables false
set_option maxRecDepth 10000
/-- Two lists whose events differ in their Orders alone. -/
def SimL : List D → List D → Prop
  | [], [] => True
  | x :: xs, y :: ys => Tw.SimE x y ∧ SimL xs ys
  | _, _ => False
theorem SimL.len : ∀ {xs ys : List D}, SimL xs ys → xs.length = ys.length
  | [], [], _ => rfl
  | x :: xs, y :: ys, h => by simp only [SimL] at h; simp [SimL.len h.2]
  | [], _ :: _, h => by simp [SimL] at h
  | _ :: _, [], h => by simp [SimL] at h
theorem SimL.at : ∀ {xs ys : List D}, SimL xs ys → ∀ i, i < xs.length → Tw.SimE (xs.getD i .Z) (ys.getD i .Z)
  | x :: xs, y :: ys, h, 0, _ => by simp only [SimL] at h; exact h.1
  | x :: xs, y :: ys, h, i + 1, hi => by
    simp only [SimL] at h
    simp only [List.length_cons] at hi
    simpa [List.getD_eq_getElem?_getD] using SimL.at h.2 i (by omega)
  | [], _, _, _, hi => by simp at hi
  | _ :: _, [], h, _, _ => by simp [SimL] at h
theorem SimL.snoc : ∀ {xs ys : List D}, SimL xs ys → ∀ {x y : D}, Tw.SimE x y → SimL (xs ++ [x]) (ys ++ [y])
  | [], [], _, _, _, h => ⟨h, trivial⟩
  | x :: xs, y :: ys, h, _, _, h2 => by simp only [SimL] at h; exact ⟨h.1, SimL.snoc h.2 h2⟩
  | [], _ :: _, h, _, _, _ => by simp [SimL] at h
  | _ :: _, [], h, _, _, _ => by simp [SimL] at h
theorem SimL.filter {p q : D → Bool} (hpq : ∀ x y, Tw.SimE x y → p x = q y) : ∀ {xs ys : List D}, SimL xs ys → SimL (xs.filter p) (ys.filter q)
  | [], [], _ => trivial
  | x :: xs, y :: ys, h => by
    simp only [SimL] at h
    have ih := SimL.filter hpq h.2
    have e := hpq x y h.1
    cases hp : p x with
    | true =>
      rw [List.filter_cons_of_pos hp, List.filter_cons_of_pos (by rw [← e, hp])]
      exact ⟨h.1, ih⟩
    | false =>
      rw [List.filter_cons_of_neg (by rw [hp]; decide), List.filter_cons_of_neg (by rw [← e, hp]; decide)]
      exact ih
  | [], _ :: _, h => by simp [SimL] at h
  | _ :: _, [], h => by simp [SimL] at h
structure BInv (c : D) (L : Int) (a b : D) (i : Nat) : Prop where
  A : GInv c a i
  B : GInv c b i
  sim : Tw.Sim L (gS a) (gS b)
  used : ∀ k, k < Cf.nC c → Cf.belowB (Cf.labAt c k) L = true → Cf.usedAt (gR a) k = Cf.usedAt (gR b) k
  lst : SimL ((mrg (gS a)).filter (seeP L)) ((mrg (gS b)).filter (seeP L))
theorem b_new {c : D} (h : Cf.chE c = 0) (L : Int) : BInv c L (gN c) (gN c) 0 := by
  have I := g_new h
  have e : gN c = .L [newT c, Cf.newU c] := if_neg fun k => k h
  have em : mrg (gS (gN c)) = [] := by rw [e]; exact Tw.nt_mrg h
  refine ⟨I, I, ?_, fun _ _ _ => rfl, ?_⟩
  · rw [e]; exact Tw.Sim.new h L
  · rw [em]; trivial
theorem yng_sim {a b x y : D} (h1 : (a.nth 2).int = (b.nth 2).int) (h2 : (a.nth 3).int = (b.nth 3).int) (h : Tw.SimE x y) : yng (now1 a) (a.nth 3).int x = yng (now1 b) (b.nth 3).int y := by
  rw [yng, yng, now1, now1, h1, h2, show (x.nth 2).int = (y.nth 2).int from h.tk]
theorem filter_comm (p q : D → Bool) (l : List D) : (l.filter p).filter q = (l.filter q).filter p := by
  rw [List.filter_filter, List.filter_filter]
  congr 1; funext x; rw [Bool.and_comm]
theorem b_tick {c a b : D} {L : Int} {i : Nat} (I : BInv c L a b i) (hi : i ≤ 30) : BInv c L (tkG c a) (tkG c b) (i + 1) := by
  obtain ⟨a1, a2, a3⟩ := g_tick I.A hi
  obtain ⟨b1, b2, b3⟩ := g_tick I.B hi
  have ta := I.A.inv.tickE hi
  have tb := I.B.inv.tickE hi
  refine ⟨a3, b3, ?_, fun k hk hb => ?_, ?_⟩
  · rw [a2, b2]; exact I.sim.tick ta
  · rw [a2, b2]; rfl
  · rw [a2, b2]
    show SimL ((mrg (tickT (gS a))).filter (seeP L)) ((mrg (tickT (gS b))).filter (seeP L))
    rw [ti_mrg I.A.inv.nn I.A.inv.ok ta, ti_mrg I.B.inv.nn I.B.inv.ok tb, filter_comm, filter_comm _ (seeP L)]
    exact I.lst.filter fun x y h => yng_sim I.sim.tk I.sim.hor h
theorem mrg_put {c g e : D} {i : Nat} (I : GInv c g i) (h : paE c g e = 0) : mrg (gS (paG c g e)) = mrg (gS g) ++ [paX c g e] := by
  obtain ⟨h0, h1, h2, h3, h4⟩ := pa_parts h
  rw [h3, h4, ← (pu_ok h2).2.1]
  exact pu_mrg I.inv.nn I.inv.ok h2
theorem see_put {c g e : D} {i : Nat} (I : GInv c g i) (h : paE c g e = 0) {L : Int} : seeP L (paX c g e) = Cf.belowB (labE e) L := by
  rw [seeP, pa_lab h]; rfl
theorem fil_snoc (p : D → Bool) (l : List D) (x : D) : (l ++ [x]).filter p = l.filter p ++ if p x = true then [x] else [] := by
  rw [List.filter_append]
  congr 1
  by_cases hp : p x = true
  · rw [if_pos hp, List.filter_cons_of_pos hp]; rfl
  · rw [if_neg hp, List.filter_cons_of_neg hp]; rfl
/-- An event that isn't seen. -/
theorem b_dark {c a b e : D} {L : Int} {i : Nat} (I : BInv c L a b i) (h : paE c a e = 0) (hb : Cf.belowB (labE e) L = false) : BInv c L (paG c a e) b (i + 1) := by
  obtain ⟨h0, h1, h2, h3, h4⟩ := pa_parts h
  have hc := use_cls I.A.gk h1
  refine ⟨g_put I.A h, I.B.skip, ?_, fun k hk hv => ?_, ?_⟩
  · rw [h3]; exact I.sim.skip h2 hb
  · rw [use_at I.A h hc.1 hc.2.1.symm k, if_neg, I.used k hk hv]
    intro e1
    rw [e1, hc.2.1] at hv
    have hb : Cf.belowB (e.nth 0).int L = false := hb
    rw [hb] at hv; cases hv
  · rw [mrg_put I.A h, fil_snoc, see_put I.A h, hb, if_neg (by decide), List.append_nil]
    exact I.lst
theorem use_eq {c a b : D} {L l : Int} {i : Nat} (I : BInv c L a b i) (hb : Cf.belowB l L = true) : Cf.useX c (gR a) l = Cf.useX c (gR b) l := by
  have qa := (gk_ok I.A.gk).2.2.2.2
  have qb := (gk_ok I.B.gk).2.2.2.2
  by_cases hf : Cf.fl c l < Cf.nC c
  · have hl := Cf.fl_spec hf
    have ea := Cf.use_lab qa hf
    have eb := Cf.use_lab qb hf
    rw [hl] at ea eb
    rw [ea, eb, I.used _ hf (by rw [hl]; exact hb)]
  · have both : ∀ {r : D}, Cf.qk c r = 0 → Cf.useX c r l = 14 := fun {r} hq => by
      have h1 : Cf.bothX c r l = 14 := by rw [Cf.bothX, if_neg (by simp [hq]), Cf.qX, if_neg (by simp [Cf.qk_0 hq]), if_neg hf]
      rw [Cf.useX, h1]; rfl
    rw [both qa, both qb]
/-- An event that is seen. -/
theorem b_same {c a b e : D} {L : Int} {i : Nat} (I : BInv c L a b i) (hi : i ≤ 100) (h0 : evBad e = false) (hb : Cf.belowB (labE e) L = true) : paE c a e = paE c b e := by
  have hu := use_eq I (l := (e.nth 0).int) hb
  by_cases h1 : Cf.useX c (gR a) (e.nth 0).int = 0
  · have hc := use_cls I.A.gk h1
    rw [pa_is I.A hi h0 h1, pa_is I.B hi h0 (hu ▸ h1)]
    have hci : cI (gS b) (labE e) = cI (gS a) (labE e) := (I.sim.cI _).symm
    have hlt : cI (gS a) (labE e) < nG (gS a) := (cN_lt hc.2.2.2).2.2.2
    have hlab : labG (gS a) (cI (gS a) (labE e)) = labE e := cI_is hlt
    have hr : Tw.SimR (rgE (gS a) e) (rgE (gS b) e) := by rw [rgE, rgE, hci]; exact I.sim.rg _ hlt (by rw [hlab]; exact hb)
    rw [← hr.cap, ← hr.h1, ← hr.h3]
  · rw [(pa_2 h0 h1).1, (pa_2 h0 (hu ▸ h1)).1, hu]
theorem b_lit {c a b e : D} {L : Int} {i : Nat} (I : BInv c L a b i) (hi : i ≤ 100) (h : paE c a e = 0) (hb : Cf.belowB (labE e) L = true) : BInv c L (paG c a e) (paG c b e) (i + 1) := by
  have hB : paE c b e = 0 := by rw [← b_same I hi (pa_parts h).1 hb]; exact h
  obtain ⟨a0, a1, a2, a3, a4⟩ := pa_parts h
  obtain ⟨b0, b1, b2, b3, b4⟩ := pa_parts hB
  have hc := use_cls I.A.gk a1
  have sp := I.sim.put a2 hb rfl rfl rfl
  refine ⟨g_put I.A h, g_put I.B hB, ?_, fun k hk hv => ?_, ?_⟩
  · rw [a3, b3]; exact sp.2.1
  · rw [use_at I.A h hc.1 hc.2.1.symm k, use_at I.B hB hc.1 hc.2.1.symm k, I.used k hk hv]
  · rw [mrg_put I.A h, mrg_put I.B hB, fil_snoc, fil_snoc, see_put I.A h, see_put I.B hB, hb, if_pos rfl, if_pos rfl]
    refine I.lst.snoc ?_
    rw [a4, b4]; exact sp.2.2
theorem b_skip {c a b : D} {L : Int} {i : Nat} (I : BInv c L a b i) : BInv c L a b (i + 1) := ⟨I.A.skip, I.B.skip, I.sim, I.used, I.lst⟩
/-- An event with its Order set to 0. -/
def zO (x : D) : D := D.puts storedS x [.fld 1] (.I 0)
theorem zO_eq {x y : D} (h : Tw.SimE x y) : eqD storedS (zO x) (zO y) = true := by
  refine Tw.eqD_of_same (by decide) ?_
  exact ⟨⟨h.lab, h.no, trivial⟩, rfl, h.tk, h.kd, h.val, trivial⟩
theorem zO_same {xs ys : List D} (h : SimL xs ys) : sameB (.L (xs.map zO)) (.L (ys.map zO)) = true := by
  have hl := h.len
  simp only [sameB, D.list, List.length_map, Bool.and_eq_true, beq_iff_eq, List.all_eq_true, List.mem_range]
  refine ⟨hl, fun j hj => ?_⟩
  have hj2 : j < ys.length := by omega
  have e1 : (xs.map zO).getD j .Z = zO (xs.getD j .Z) := by simp [List.getD_eq_getElem?_getD, List.getElem?_map, List.getElem?_eq_getElem hj]
  have e2 : (ys.map zO).getD j .Z = zO (ys.getD j .Z) := by simp [List.getD_eq_getElem?_getD, List.getElem?_map, List.getElem?_eq_getElem hj2]
  rw [e1, e2]
  exact zO_eq (h.at j hj)
theorem b_used {c a b : D} {L : Int} {i : Nat} (I : BInv c L a b i) : Cf.seenU c (gR a) L (Cf.nU (gR a)) = Cf.seenU c (gR b) L (Cf.nU (gR b)) := by
  have na := lens I.A
  have nb := lens I.B
  rw [na.2, nb.2]
  exact Cf.seenU_congr fun k hk hs => I.used k hk hs
end Go.Proofs.Ytpfpgjkbnjnjnaa
