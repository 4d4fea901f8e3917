/- Stores in plain Lean: a store into which only the events below a label are put. -/
import Derived.Test.YtelemmagiagohaaWTy
namespace Go.Proofs.Ytelemmagiagohaa
open Go Go.Vm Rg
set_option linter.unusedSimpArgs false
set_option linter.unusedVariables false
set_option maxRecDepth 10000
structure Sim (l : Int) (S T : D) : Prop where
  oS : stE S = 0
  nS : 0 ≤ (S.nth 1).int ∧ 0 ≤ (S.nth 2).int ∧ 0 ≤ (S.nth 3).int
  oT : stE T = 0
  nT : 0 ≤ (T.nth 1).int ∧ 0 ≤ (T.nth 2).int ∧ 0 ≤ (T.nth 3).int
  n : nG S = nG T
  lab : ∀ i, labG S i = labG T i
  arr : (T.nth 1).int ≤ (S.nth 1).int
  tk : (S.nth 2).int = (T.nth 2).int
  hor : (S.nth 3).int = (T.nth 3).int
  rg : ∀ i, i < nG S → Cf.belowB (labG S i) l = true → SimR (rgAt S i) (rgAt T i)
theorem Sim.new {c : D} (h : Cf.chE c = 0) (l : Int) : Sim l (newT c) (newT c) := by
  obtain ⟨h1, h2, h3, h4⟩ := nt_rgs h
  have hc := (Cf.ch_ok.1 h).2.2.2.2
  simp only [Cf.horBad, Cf.out, Bool.or_eq_false_iff, ltB_false] at hc
  exact ⟨nt_right h, by omega, nt_right h, by omega, rfl, fun _ => rfl, Int.le_refl _, rfl, rfl, fun _ _ _ => SimR.rfl⟩
theorem Sim.cI {l : Int} {S T : D} (h : Sim l S T) (x : Int) : cI S x = cI T x := by
  have e : isC S x = isC T x := by funext i; rw [isC, isC, h.lab i]
  rw [Go.Proofs.Ytelemmagiagohaa.cI, Go.Proofs.Ytelemmagiagohaa.cI, e, h.n]
theorem Sim.tickE {l : Int} {S T : D} (h : Sim l S T) (hp : tickE S = 0) : tickE T = 0 :=
  ti_0 h.oT (by have := ti_top h.nS h.oS hp; rw [← h.tk]; simp only [leB_false]; exact this)
theorem Sim.tick {l : Int} {S T : D} (h : Sim l S T) (hp : Go.Proofs.Ytelemmagiagohaa.tickE S = 0) : Sim l (tickT S) (tickT T) := by
  have hq := h.tickE hp
  obtain ⟨s1, s2, s3, s4⟩ := ti_rgs h.nS h.oS hp
  obtain ⟨t1, t2, t3, t4⟩ := ti_rgs h.nT h.oT hq
  have nS := h.nS
  have nT := h.nT
  have hnow : now1 S = now1 T := by rw [now1, now1, h.tk]
  have n1 : 0 ≤ now1 S := by rw [now1]; omega
  refine ⟨ti_right h.nS h.oS hp, ⟨by rw [s2]; exact nS.1, by rw [s3]; exact n1, by rw [s4]; exact nS.2.2⟩, ti_right h.nT h.oT hq, ⟨by rw [t2]; exact nT.1, by rw [t3, ← hnow]; exact n1, by rw [t4]; exact nT.2.2⟩,
    by rw [ti_nG h.nS h.oS hp, ti_nG h.nT h.oT hq, h.n], fun i => by rw [ti_lab h.nS h.oS hp, ti_lab h.nT h.oT hq, h.lab], by rw [s2, t2]; exact h.arr, by rw [s3, t3, hnow], by rw [s4, t4, h.hor], fun i hi hb => ?_⟩
  rw [ti_nG h.nS h.oS hp] at hi
  rw [ti_lab h.nS h.oS hp] at hb
  have hr := h.rg i hi hb
  have hbad : badR (rgAt S i) = false := chk_bad ((st_ok h.oS).1.2 i hi)
  rw [ti_at h.nS h.oS hp i hi, ti_at h.nT h.oT hq i (by rw [← h.n]; exact hi), tickRg, tickRg, tickK, tickK, ← hnow, ← h.hor, ← hr.old hbad]
  exact hr.evict _
theorem mrg_key' {s : D} (h : stE s = 0) {x : D} (hx : x ∈ mrg s) : 1 ≤ keyO x ∧ keyO x ≤ (s.nth 1).int ∧ (x.nth 2).int ≤ (s.nth 2).int := by
  have h1 := flat_pos (st_ok h).1 ((srt_perm _).mem_iff.1 hx)
  have h2 := (nu_ok (st_ok h).2.2.2).1
  rw [List.any_eq_false] at h2
  have h3 := h2 x hx
  simp only [lateG, Bool.or_eq_true, ltB_true, not_or] at h3
  have : keyO x = (x.nth 1).int := rfl
  omega
/-- An event can be put into a right store whose ring isn't full. -/
theorem put_0 {T f : D} (h : stE T = 0) (hn : 0 ≤ (T.nth 1).int ∧ 0 ≤ (T.nth 2).int ∧ 0 ≤ (T.nth 3).int) (h1 : evC f = 0) (h2 : cE T (labE f) = 0) (h3 : (T.nth 1).int < 1099511627776)
    (h4 : ((cap (rgE T f) : Int) == ((rgE T f).nth 1).int || ltB 1099511627776 ((rgE T f).nth 3).int) = false) : putTE T f = 0 := by
  have hr := st_rng h
  have hc := (cN_lt h2).2.2.2
  have hchk : chk (rgE T f) = 0 := (st_ok h).1.2 _ hc
  rw [putTE, ite0 h, if_neg (by rw [h1]; decide), if_neg (by rw [h2]; decide), if_neg (by simp only [leB_true]; omega)]
  have he : evF ((rgE T f).nth 0).int ((rgE T f).nth 3).int (newD (rgE T f) (arr1 T) (T.nth 2).int (f.nth 1).int (f.nth 2).int) (bef (rgE T f) (cap (rgE T f))) = 0 := by
    have hb : (bef (rgE T f) (cap (rgE T f))).nth 1 = .I 0 ∧ (bef (rgE T f) (cap (rgE T f))).nth 2 = .I 0 ∨ bef (rgE T f) (cap (rgE T f)) ∈ mrg T := by
      cases hcap : cap (rgE T f) with
      | zero => exact .inl ⟨rfl, rfl⟩
      | succ m =>
        refine .inr ((srt_perm _).mem_iff.2 (mem_flat.2 ⟨_, hc, m, ?_, rfl⟩))
        show m < cap (rgE T f)
        omega
    have hbb : ((bef (rgE T f) (cap (rgE T f))).nth 1).int < arr1 T ∧ ((bef (rgE T f) (cap (rgE T f))).nth 2).int ≤ (T.nth 2).int := by
      rw [arr1]
      rcases hb with ⟨e1, e2⟩ | hb
      · rw [e1, e2]
        show (0 : Int) < (T.nth 1).int + 1 ∧ (0 : Int) ≤ (T.nth 2).int
        omega
      · have hk := mrg_key' h hb
        have : keyO (bef (rgE T f) (cap (rgE T f))) = ((bef (rgE T f) (cap (rgE T f))).nth 1).int := rfl
        omega
    obtain ⟨b, hbe⟩ : ∃ b, b = bef (rgE T f) (cap (rgE T f)) := ⟨_, rfl⟩
    rw [← hbe] at hbb ⊢
    have k1 : (ltB (f.nth 1).int 0 || ltB 25 (f.nth 1).int) = false := by
      rw [evC] at h1
      split at h1
      · cases h1
      · rename_i hh
        simp only [Bool.or_eq_true, ltB_true, leB_true, not_or] at hh
        simp only [Bool.or_eq_false_iff, ltB_false]; omega
    show (if eqD idS (idD ((rgE T f).nth 0).int ((rgE T f).nth 3).int) (idD ((rgE T f).nth 0).int ((rgE T f).nth 3).int) = false then (3 : Int)
      else if (ltB (f.nth 1).int 0 || ltB 25 (f.nth 1).int) = true then 11
      else if (ltB (arr1 T) 1 || ltB 1099511627776 (arr1 T) || ltB 1099511627776 (T.nth 2).int) = true then 2
      else if (leB (arr1 T) (b.nth 1).int || ltB (T.nth 2).int (b.nth 2).int) = true then 9 else 0) = 0
    have kid : ∀ a b : Int, eqD idS (idD a b) (idD a b) = true := fun a b => (eqId _ _).2 ⟨rfl, rfl⟩
    rw [kid, if_neg (by decide), if_neg (by rw [k1]; decide), if_neg ?_, if_neg ?_]
    · simp only [Bool.or_eq_true, ltB_true, leB_true, not_or]; omega
    · simp only [Bool.or_eq_true, ltB_true, not_or]; rw [arr1]; omega
  rw [putE, if_neg (by rw [hchk]; decide), if_neg (by rw [he]; decide), if_neg (by rw [h4]; decide)]
mutual
theorem eqD_of_same : ∀ {s : Sh} {a b : D}, s.flat = true → Same s a b → eqD s a b = true
  | .int _, _, _, _, h => by simp only [Same] at h; simp [eqD, h]
  | .bool, _, _, _, h => by simp only [Same] at h; simp [eqD, h]
  | .str, a, b, _, h => by
    simp only [Same] at h
    have hb : ∀ x : ByteArray, (x == x) = true := fun ⟨x⟩ => by show (x == x) = true; simp
    simp only [eqD, h]; exact hb _
  | .struct ss, _, _, hf, h => by simp only [Same] at h; simp only [eqD]; exact eqDs_of_sames (by simpa [Sh.flat] using hf) h
  | .arr n s, _, _, hf, h => by
    simp only [Same] at h
    simp only [eqD, List.all_eq_true, List.mem_range]
    exact fun j hj => eqD_of_same (by simpa [Sh.flat] using hf) (h j hj)
  | .slice s, _, _, hf, _ => by simp [Sh.flat] at hf
  | .ref, _, _, hf, _ => by simp [Sh.flat] at hf
theorem eqDs_of_sames : ∀ {ss : List Sh} {i : Nat} {a b : D}, Sh.flats ss = true → Sames ss i a b → eqDs ss i a b = true
  | [], _, _, _, _, _ => by simp [eqDs]
  | s :: ss, _, _, _, hf, h => by
    simp only [Sh.flats, Bool.and_eq_true] at hf
    simp only [Sames] at h
    simp only [eqDs, Bool.and_eq_true]
    exact ⟨eqD_of_same hf.1 h.1, eqDs_of_sames hf.2 h.2⟩
end
theorem Sim.put {l : Int} {S T e f : D} (h : Sim l S T) (hp : putTE S e = 0) (hb : Cf.belowB (labE e) l = true) (e0 : labE f = labE e) (e1 : (f.nth 1).int = (e.nth 1).int) (e2 : (f.nth 2).int = (e.nth 2).int) :
    putTE T f = 0 ∧ Sim l (putT S e) (putT T f) ∧ SimE (putX S e) (putX T f) := by
  obtain ⟨p1, p2, p3, p4⟩ := pu_parts h.nS h.oS hp
  have hc := (cN_lt p2).2.2.2
  have hcT : Go.Proofs.Ytelemmagiagohaa.cI T (labE f) = Go.Proofs.Ytelemmagiagohaa.cI S (labE e) := by rw [e0, h.cI]
  have hlab : labG S (Go.Proofs.Ytelemmagiagohaa.cI S (labE e)) = labE e := cI_is hc
  have hr : SimR (rgE S e) (rgE T f) := by rw [rgE, rgE, hcT]; exact h.rg _ hc (by rw [hlab]; exact hb)
  have q := putE_0 p4
  have harr := h.arr
  have hq : putTE T f = 0 := by
    refine put_0 h.oT h.nT (by rw [evC, e1]; exact p1) (by rw [cE, hcT, ← h.n, if_pos hc]) (by omega) ?_
    rw [← hr.cap, ← hr.h1, ← hr.h3, Bool.or_eq_false_iff]
    refine ⟨by rw [beq_eq_false_iff_ne]; omega, by simp only [ltB_false]; omega⟩
  have hE : SimE (newE S e) (newE T f) := ⟨hr.h0, hr.h3, h.tk, e1.symm, e2.symm⟩
  obtain ⟨s1, s2, s3, s4⟩ := pu_rgs h.nS h.oS hp
  obtain ⟨t1, t2, t3, t4⟩ := pu_rgs h.nT h.oT hq
  have nS := h.nS
  have nT := h.nT
  refine ⟨hq, ⟨pu_right h.nS h.oS hp, ⟨by rw [s2, arr1]; omega, by rw [s3]; exact nS.2.1, by rw [s4]; exact nS.2.2⟩, pu_right h.nT h.oT hq, ⟨by rw [t2, arr1]; omega, by rw [t3]; exact nT.2.1, by rw [t4]; exact nT.2.2⟩,
    by rw [pu_nG h.nS h.oS hp, pu_nG h.nT h.oT hq, h.n], fun i => by rw [pu_lab h.nS h.oS hp, pu_lab h.nT h.oT hq, h.lab], by rw [s2, t2, arr1, arr1]; omega, by rw [s3, t3]; exact h.tk, by rw [s4, t4]; exact h.hor, fun i hi hbi => ?_⟩, ?_⟩
  · rw [pu_nG h.nS h.oS hp] at hi
    rw [pu_lab h.nS h.oS hp] at hbi
    rw [pu_at h.nS h.oS hp i hi, pu_at h.nT h.oT hq i (by rw [← h.n]; exact hi), hcT]
    split
    · exact hr.put hE
    · exact h.rg i hi hbi
  · rw [← (pu_ok hp).2.1, ← (pu_ok hq).2.1]; exact hE
theorem Sim.skip {l : Int} {S T e : D} (h : Sim l S T) (hp : putTE S e = 0) (hb : Cf.belowB (labE e) l = false) : Sim l (putT S e) T := by
  obtain ⟨p1, p2, p3, p4⟩ := pu_parts h.nS h.oS hp
  have hc := (cN_lt p2).2.2.2
  have hlab : labG S (Go.Proofs.Ytelemmagiagohaa.cI S (labE e)) = labE e := cI_is hc
  obtain ⟨s1, s2, s3, s4⟩ := pu_rgs h.nS h.oS hp
  have nS := h.nS
  have harr := h.arr
  refine ⟨pu_right h.nS h.oS hp, ⟨by rw [s2, arr1]; omega, by rw [s3]; exact nS.2.1, by rw [s4]; exact nS.2.2⟩, h.oT, h.nT, by rw [pu_nG h.nS h.oS hp, h.n], fun i => by rw [pu_lab h.nS h.oS hp, h.lab], by rw [s2, arr1]; omega, by rw [s3]; exact h.tk, by rw [s4]; exact h.hor, fun i hi hbi => ?_⟩
  rw [pu_nG h.nS h.oS hp] at hi
  rw [pu_lab h.nS h.oS hp] at hbi
  rw [pu_at h.nS h.oS hp i hi, if_neg (fun e => by rw [e, hlab, hb] at hbi; cases hbi)]
  exact h.rg i hi hbi
/-- How a store goes on: ticks, and events that are put. -/
inductive Cont : D → List D → D → Prop
  | done (S : D) : Cont S [] S
  | tick {S W : D} {B : List D} : Go.Proofs.Ytelemmagiagohaa.tickE S = 0 → Cont (tickT S) B W → Cont S B W
  | put {S W e : D} {B : List D} : putTE S e = 0 → Cont (putT S e) B W → Cont S (putX S e :: B) W
theorem Cont.snocT {S W : D} {B : List D} (h : Cont S B W) : Go.Proofs.Ytelemmagiagohaa.tickE W = 0 → Cont S B (tickT W) := by
  induction h with
  | done S => exact fun h => .tick h (.done _)
  | tick h1 _ ih => exact fun h => .tick h1 (ih h)
  | put h1 _ ih => exact fun h => .put h1 (ih h)
theorem Cont.snocP {S W e : D} {B : List D} (h : Cont S B W) : putTE W e = 0 → Cont S (B ++ [putX W e]) (putT W e) := by
  induction h with
  | done S => exact fun h => .put h (.done _)
  | tick h1 _ ih => exact fun h => .tick h1 (ih h)
  | put h1 _ ih => exact fun h => .put h1 (ih h)
theorem cont_mdR {c : D} (h : Cf.chE c = 0) (n : List D) : ∀ {i : Nat}, i ≤ 30 → Cont (newT c) (mdR c n i).2 (mdR c n i).1
  | 0, _ => .done _
  | i + 1, hi => by
    have ih := cont_mdR h n (i := i) (by omega)
    have I := inv_mdR h n (i := i) (by omega)
    rw [mdR, mkR]
    split
    · exact ih.snocT (I.tickE (by omega))
    · split
      · rename_i hp; exact ih.snocP hp
      · exact ih
/-- Time goes on. -/
theorem Cont.time {S W : D} {B : List D} (h : Cont S B W) : stE S = 0 → 0 ≤ (S.nth 1).int ∧ 0 ≤ (S.nth 2).int ∧ 0 ≤ (S.nth 3).int → (S.nth 2).int ≤ (W.nth 2).int ∧ ∀ a, a ∈ B → (S.nth 2).int ≤ tkO a ∧ tkO a ≤ (W.nth 2).int := by
  induction h with
  | done S => exact fun _ _ => ⟨Int.le_refl _, fun a h => (by cases h)⟩
  | @tick S W B h1 _ ih =>
    intro h0 hn
    obtain ⟨s1, s2, s3, s4⟩ := ti_rgs hn h0 h1
    have e3 : ((tickT S).nth 2).int = (S.nth 2).int + 1 := s3
    obtain ⟨i1, i2⟩ := ih (ti_right hn h0 h1) ⟨by rw [s2]; exact hn.1, by omega, by rw [s4]; exact hn.2.2⟩
    exact ⟨by omega, fun a ha => by have := i2 a ha; omega⟩
  | @put S W e B h1 _ ih =>
    intro h0 hn
    obtain ⟨s1, s2, s3, s4⟩ := pu_rgs hn h0 h1
    have e2 : ((putT S e).nth 1).int = (S.nth 1).int + 1 := s2
    obtain ⟨i1, i2⟩ := ih (pu_right hn h0 h1) ⟨by omega, by rw [s3]; exact hn.2.1, by rw [s4]; exact hn.2.2⟩
    rw [s3] at i1 i2
    refine ⟨i1, fun a ha => ?_⟩
    rcases List.mem_cons.1 ha with e' | ha
    · subst e'
      rw [← (pu_ok h1).2.1]
      exact ⟨Int.le_refl _, i1⟩
    · exact i2 a ha
/-- The store that follows has not yet come to the time of the next event. -/
theorem Cont.early {l : Int} {S T W a : D} {B : List D} (h : Sim l S T) (hc : Cont S (a :: B) W) (ht : (T.nth 2).int < tkO a) : Go.Proofs.Ytelemmagiagohaa.tickE T = 0 ∧ ∃ S', Sim l S' (tickT T) ∧ Cont S' (a :: B) W := by
  cases hc with
  | tick h1 h2 => exact ⟨h.tickE h1, _, h.tick h1, h2⟩
  | put h1 h2 =>
    exfalso
    rw [← (pu_ok h1).2.1] at ht
    have ht : (T.nth 2).int < (S.nth 2).int := ht
    rw [h.tk] at ht
    omega
theorem Cont.now {l : Int} {S T W a : D} {B : List D} (h : Sim l S T) (hc : Cont S (a :: B) W) (ht : ¬ (T.nth 2).int < tkO a) : ∃ e, a = putX S e ∧ putTE S e = 0 ∧ Cont (putT S e) B W := by
  cases hc with
  | tick h1 h2 =>
    exfalso
    obtain ⟨s1, s2, s3, s4⟩ := ti_rgs h.nS h.oS h1
    have e3 : ((tickT S).nth 2).int = (S.nth 2).int + 1 := s3
    have nS := h.nS
    have := (h2.time (ti_right h.nS h.oS h1) ⟨by rw [s2]; exact nS.1, by omega, by rw [s4]; exact nS.2.2⟩).2 a (by simp)
    have := h.tk
    omega
  | put h1 h2 => exact ⟨_, rfl, h1, h2⟩
theorem Cont.last {l : Int} {S T W : D} (h : Sim l S T) (hc : Cont S [] W) (ht : (T.nth 2).int < (W.nth 2).int) : Go.Proofs.Ytelemmagiagohaa.tickE T = 0 ∧ ∃ S', Sim l S' (tickT T) ∧ Cont S' [] W := by
  cases hc with
  | done => exfalso; have := h.tk; omega
  | tick h1 h2 => exact ⟨h.tickE h1, _, h.tick h1, h2⟩
theorem Cont.over {l : Int} {S T W : D} (h : Sim l S T) (hc : Cont S [] W) (ht : ¬ (T.nth 2).int < (W.nth 2).int) : W = S := by
  cases hc with
  | done => rfl
  | tick h1 h2 =>
    exfalso
    obtain ⟨s1, s2, s3, s4⟩ := ti_rgs h.nS h.oS h1
    have e3 : ((tickT S).nth 2).int = (S.nth 2).int + 1 := s3
    have nS := h.nS
    have := (h2.time (ti_right h.nS h.oS h1) ⟨by rw [s2]; exact nS.1, by omega, by rw [s4]; exact nS.2.2⟩).1
    have := h.tk
    omega
/-- The rings below a label, by their places. -/
def bwI (s : D) (l : Int) : List Nat := (List.range (nG s)).filter fun i => Cf.belowB (labG s i) l
theorem belR_eq (s : D) (l : Int) : belR s l = (bwI s l).map (rgAt s) := by
  have e : rgs s = (List.range (nG s)).map (rgAt s) := by
    apply List.ext_getElem
    · simp [nG]
    · intro i h1 h2
      simp [rgAt, List.getD_eq_getElem?_getD, List.getElem?_eq_getElem h1]
  unfold belR bwI
  rw [e, List.filter_map]
  have en : nG s = ((List.range (nG s)).map (rgAt s)).length := by simp
  rfl
theorem Sim.below {l : Int} {S T : D} (h : Sim l S T) : (belR S l).length = (belR T l).length ∧ ∀ j, j < (belR S l).length → SimR ((belR S l).getD j .Z) ((belR T l).getD j .Z) := by
  have e : bwI S l = bwI T l := by
    unfold bwI
    rw [h.n]
    congr 1; funext i; rw [h.lab]
  rw [belR_eq, belR_eq, ← e]
  refine ⟨by simp, fun j hj => ?_⟩
  rw [List.length_map] at hj
  have hm := List.mem_filter.1 (List.getElem_mem hj)
  rw [List.mem_range] at hm
  simp only [List.getD_eq_getElem?_getD, List.getElem?_map, List.getElem?_eq_getElem hj, Option.map_some, Option.getD_some]
  exact h.rg _ hm.1 hm.2
/-- A ring whose first events have no arrival. -/
def zr (r : D) : Nat → D
  | 0 => r
  | k + 1 => D.puts ringS (zr r k) [.fld 4, .idx k, .fld 1] (.I 0)
theorem zr_0 (r : D) : ∀ k, (zr r k).nth 0 = r.nth 0 ∧ (zr r k).nth 1 = r.nth 1 ∧ (zr r k).nth 2 = r.nth 2 ∧ (zr r k).nth 3 = r.nth 3
  | 0 => ⟨rfl, rfl, rfl, rfl⟩
  | k + 1 => by
    obtain ⟨h0, h1, h2, h3⟩ := zr_0 r k
    exact ⟨h0 ▸ rfl, h1 ▸ rfl, h2 ▸ rfl, h3 ▸ rfl⟩
theorem zr_4 (r : D) (k j : Nat) : ((zr r (k + 1)).nth 4).nth j = if j = k then D.puts storedS (((zr r k).nth 4).nth k) [.fld 1] (.I 0) else ((zr r k).nth 4).nth j := by
  show (D.puts (.arr 64 storedS) ((zr r k).nth 4) [.idx k, .fld 1] (.I 0)).nth j = _
  simp [D.puts_idx]
theorem zr_ev (r : D) (j : Nat) : ∀ k, (((zr r k).nth 4).nth j).nth 0 = ((r.nth 4).nth j).nth 0 ∧ (((zr r k).nth 4).nth j).nth 1 = (if j < k then .I 0 else ((r.nth 4).nth j).nth 1) ∧ (((zr r k).nth 4).nth j).nth 2 = ((r.nth 4).nth j).nth 2 ∧ (((zr r k).nth 4).nth j).nth 3 = ((r.nth 4).nth j).nth 3 ∧ (((zr r k).nth 4).nth j).nth 4 = ((r.nth 4).nth j).nth 4
  | 0 => ⟨rfl, by rw [if_neg (by omega)]; rfl, rfl, rfl, rfl⟩
  | k + 1 => by
    obtain ⟨h0, h1, h2, h3, h4⟩ := zr_ev r j k
    rw [zr_4]
    by_cases e : j = k
    · subst e
      rw [if_pos rfl, if_pos (by omega)]
      exact ⟨h0, rfl, h2, h3, h4⟩
    · rw [if_neg e]
      refine ⟨h0, ?_, h2, h3, h4⟩
      rw [h1]
      by_cases hl : j < k
      · rw [if_pos hl, if_pos (by omega)]
      · rw [if_neg hl, if_neg (by omega)]
theorem zr_same {a b : D} (h : SimR a b) : eqD ringS (zr a 64) (zr b 64) = true := by
  refine eqD_of_same rfl ?_
  have a0 := zr_0 a 64
  have b0 := zr_0 b 64
  simp only [Same, Sames, and_true]
  refine ⟨by rw [a0.1, b0.1]; exact h.h0, by rw [a0.2.1, b0.2.1]; exact h.h1, by rw [a0.2.2.1, b0.2.2.1]; exact h.h2, by rw [a0.2.2.2, b0.2.2.2]; exact h.h3, fun j hj => ?_⟩
  obtain ⟨p0, p1, p2, p3, p4⟩ := zr_ev a j 64
  obtain ⟨q0, q1, q2, q3, q4⟩ := zr_ev b j 64
  have he := h.ev j hj
  rw [p0, p1, p2, p3, p4, q0, q1, q2, q3, q4, if_pos hj, if_pos hj]
  exact ⟨⟨he.lab, he.no⟩, rfl, he.tk, he.kd, he.val⟩
def evO (x : D) : D := .L [.I (lbS x), .I (x.nth 3).int, .I (x.nth 4).int]
def sOf : Sum := ⟨[storedS], fun _ => none, fun
  | [x] => .dat eventS (evO x)
  | _ => .und⟩
theorem of_fun : FunOK c0T 40 Try.f24 sOf := fun x hx _ => Bears.same (eqSame rfl)
def cBe : Ctx := ⟨tabM, refsT, [(21, Cf.sCfg), (22, sMade), (23, sBelT), (19, sNewT), (17, sTick), (24, sOf), (12, sPutT), (10, sTrueT)], [], keep, mpsT⟩
def sBelow : Sum := ⟨[i64, u64, .slice i64], fun _ => none, fun _ => .dat .bool (.B true)⟩
set_option maxHeartbeats 2000000 in
theorem below_fun : FunOK cBe 200 Try.f4 sBelow := fun a ha l hl n hn _ => by
  obtain ⟨c, hce⟩ : ∃ c, c = Cf.cfgD (Cf.cfgK a.int) := ⟨_, rfl⟩
  have hc : Cf.chE c = 0 := by
    have h1 := Cf.cfgK_range a.int
    rw [hce]; exact Cf.cfg_right h1.1 h1.2
  have hmd : mdN n.list ≤ 30 := Nat.min_le_right ..
  have I := inv_mdR hc n.list hmd
  have hC := cont_mdR hc n.list hmd
  obtain ⟨X, hX⟩ : ∃ X, X = mdR c n.list (mdN n.list) := ⟨_, rfl⟩
  rw [← hX] at I hC
  have hlen := I.len
  have hN := nt_rgs hc
  refine ⟨by show Cf.chE (Cf.cfgD (Cf.cfgK a.int)) = 0; rw [← hce]; exact hc, fun h1 => absurd h1 ?_, fun h1 => ?_⟩
  · show ¬ (!true || stE (mdR (Cf.cfgD (Cf.cfgK a.int)) n.list (mdN n.list)).1 != 0 || Cf.chE (Cf.cfgD (Cf.cfgK a.int)) != 0) = true
    rw [← hce, ← hX, I.ok, hc]; simp
  clear h1
  refine ⟨{ z : Nat × D // z.1 ≤ X.2.length ∧ ∃ S, Sim l.int S z.2 ∧ Cont S (X.2.drop z.1) X.1 }, 4, fun z => ([(16, .dat i64 (.I z.1.1)), (15, .dat u64 (.I (z.1.2.nth 2).int)), (13, .ptr 3 storeS [] storeS), (11, .ptr 2 storeS [] storeS), (9, .dat (.slice storedS) (.L X.2)), (8, .ptr 1 storeS [] storeS), (1, .dat u64 (.I l.int))],
      [(3, .box storeS (.dat storeS z.1.2)), (2, .box storeS (.dat storeS (belT X.1 l.int))), (1, .box storeS (.dat storeS X.1))]), fun z => X.2.length - z.1.1,
    ⟨(0, newT c), Nat.zero_le _, newT c, Sim.new hc _, hC⟩, ⟨[], rfl, ⟨rfl, slot ?_, rfl, rfl, slotD ?_, rfl, rfl, trivial⟩, ⟨bx ?_, bx ?_, bx ?_, trivial⟩⟩, ?_⟩
  · exact hN.2.2.1.symm
  · rw [hX, hce]; rfl
  · show newT (Cf.cfgD (Cf.cfgK a.int)) = newT c
    rw [hce]
  · rw [hX, hce]; rfl
  · rw [hX, hce]; rfl
  intro z
  obtain ⟨⟨i, T⟩, hi, S, hS, hCo⟩ := z
  simp only at hi hS hCo
  have len30 : X.2.length ≤ 30 := by omega
  refine ⟨fun h1 => ?_, fun h1 => ?_⟩
  · have hlt : i < X.2.length := ltN h1
    clear h1
    obtain ⟨x, hx⟩ : ∃ x, x = X.2.getD i .Z := ⟨_, rfl⟩
    have hdrop : X.2.drop i = x :: X.2.drop (i + 1) := by
      rw [hx, List.drop_eq_getElem_cons hlt, List.getD_eq_getElem?_getD, List.getElem?_eq_getElem hlt]; rfl
    refine ⟨{ T : D // ∃ S, Sim l.int S T ∧ Cont S (X.2.drop i) X.1 }, 4, fun T => ([(16, .dat i64 (.I i)), (15, .dat u64 (.I (T.1.nth 2).int)), (13, .ptr 3 storeS [] storeS), (11, .ptr 2 storeS [] storeS), (9, .dat (.slice storedS) (.L X.2)), (8, .ptr 1 storeS [] storeS), (1, .dat u64 (.I l.int))],
      [(3, .box storeS (.dat storeS T.1)), (2, .box storeS (.dat storeS (belT X.1 l.int))), (1, .box storeS (.dat storeS X.1))]), fun T => (tkO x - (T.1.nth 2).int).toNat,
      ⟨T, S, hS, hCo⟩, ⟨[], rfl, ⟨rfl, rfl, rfl, rfl, rfl, rfl, rfl, trivial⟩, ⟨rfl, rfl, rfl, trivial⟩⟩, ?_⟩
    intro z
    obtain ⟨T, S, hS, hCo⟩ := z
    rw [hdrop] at hCo
    have gi : 0 ≤ (i : Int) ∧ (i : Int) < (X.2.length : Int) := ix hlt
    have hxe : X.2.getD (i : Int).toNat .Z = x := hx.symm
    have hT40 : (T.nth 2).int < 40 := by
      have h1 := (hCo.time hS.oS hS.nS).1
      have h2 := I.tk
      have h3 := hS.tk
      omega
    refine ⟨gi, fun h1 => ?_, fun h1 => ?_⟩
    · replace h1 : (ltB (T.nth 2).int ((X.2.getD i .Z).nth 2).int && ltB (T.nth 2).int 40) = true := h1
      rw [← hx, Bool.and_eq_true] at h1
      have h1 : (T.nth 2).int < tkO x := ltT h1.1
      obtain ⟨q1, S', q2, q3⟩ := Cont.early hS hCo h1
      have q4 := ti_rgs hS.nT hS.oT q1
      have q5 := ti_top hS.nT hS.oT q1
      have nT := hS.nT
      have q6 : ((tickT T).nth 2).int = (T.nth 2).int + 1 := q4.2.2.1
      refine ⟨fun h2 => absurd h2 (by show ¬ (Go.Proofs.Ytelemmagiagohaa.tickE T != 0) = true; rw [q1]; decide), fun _ => ⟨⟨tickT T, S', q2, by rw [hdrop]; exact q3⟩, ⟨[], rfl, ⟨rfl, slot ?_, rfl, rfl, rfl, rfl, rfl, trivial⟩, ⟨rfl, rfl, rfl, trivial⟩⟩, ?_⟩⟩
      · show IntKind.u64.wrap ((T.nth 2).int + 1) = ((tickT T).nth 2).int
        rw [q6]; exact wrap_u64 (by omega) (by omega)
      · show (tkO x - ((tickT T).nth 2).int).toNat < (tkO x - (T.nth 2).int).toNat
        omega
    · replace h1 : (ltB (T.nth 2).int ((X.2.getD i .Z).nth 2).int && ltB (T.nth 2).int 40) = false := h1
      have h1 : ¬ (T.nth 2).int < tkO x := by
        rw [← hx, Bool.and_eq_false_iff, ltB_false, ltB_false] at h1
        have : tkO x = (x.nth 2).int := rfl
        omega
      obtain ⟨e, he, hp, hC2⟩ := Cont.now hS hCo h1
      have hxn : x = newE S e := by rw [he]; exact (pu_ok hp).2.1.symm
      have hlx : lbS x = labE e := by
        rw [hxn]
        exact cI_is (cN_lt (pu_parts hS.nS hS.oS hp).2.1).2.2.2
      have e1 : ((evO x).nth 1).int = (e.nth 1).int := by rw [hxn]; rfl
      have e2 : ((evO x).nth 2).int = (e.nth 2).int := by rw [hxn]; rfl
      have e0 : labE (evO x) = labE e := hlx
      refine ⟨gi, fun h2 => ?_, fun h2 => ?_⟩
      · replace h2 : (!Cf.belowB (lbS (X.2.getD i .Z)) l.int) = true := h2
        rw [← hx, hlx, Bool.not_eq_true'] at h2
        exact ⟨⟨(i + 1, T), hlt, putT S e, hS.skip hp h2, hC2⟩, ⟨[], rfl, ⟨slot (i64_1 (n := i) (by omega)), rfl, rfl, rfl, rfl, rfl, rfl, trivial⟩, ⟨rfl, rfl, rfl, trivial⟩⟩, stepLt hlt⟩
      · replace h2 : (!Cf.belowB (lbS (X.2.getD i .Z)) l.int) = false := h2
        rw [← hx, hlx, Bool.not_eq_false'] at h2
        obtain ⟨q1, q2, q3⟩ := hS.put hp h2 e0 e1 e2
        have q4 := pu_rgs hS.nT hS.oT q1
        refine ⟨gi, by kernel_rfl, fun _ => ⟨gi.1, gi.2⟩, fun _ => ⟨gi.1, gi.2⟩, by kernel_rfl, fun h3 => ?_, fun _ => ?_⟩
        · replace h3 : (putTE T (evO (X.2.getD i .Z)) != 0 || !eqD idS ((putX T (evO (X.2.getD i .Z))).nth 0) ((X.2.getD i .Z).nth 0) || ((putX T (evO (X.2.getD i .Z))).nth 2).int != ((X.2.getD i .Z).nth 2).int) = true := h3
          rw [← hx, q1] at h3
          rw [← he] at q3
          have k1 : eqD idS ((putX T (evO x)).nth 0) (x.nth 0) = true := (eqId _ _).2 ⟨q3.lab.symm, q3.no.symm⟩
          have k2 : ((putX T (evO x)).nth 2).int = (x.nth 2).int := q3.tk.symm
          rw [k1, k2] at h3
          simp at h3
        · refine ⟨⟨(i + 1, putT T (evO x)), hlt, putT S e, q2, hC2⟩, ⟨[], rfl, ⟨slot (i64_1 (n := i) (by omega)), slot (by rw [q4.2.2.1]), rfl, rfl, rfl, rfl, rfl, trivial⟩, ⟨bx (show putT T (evO (X.2.getD i .Z)) = putT T (evO x) by rw [← hx]), rfl, rfl, trivial⟩⟩, stepLt hlt⟩
  · have hend : i = X.2.length := geN hi h1
    clear h1
    rw [hend, List.drop_length] at hCo
    refine ⟨{ T : D // ∃ S, Sim l.int S T ∧ Cont S [] X.1 }, 4, fun T => ([(15, .dat u64 (.I (T.1.nth 2).int)), (13, .ptr 3 storeS [] storeS), (11, .ptr 2 storeS [] storeS), (8, .ptr 1 storeS [] storeS), (1, .dat u64 (.I l.int))],
      [(3, .box storeS (.dat storeS T.1)), (2, .box storeS (.dat storeS (belT X.1 l.int))), (1, .box storeS (.dat storeS X.1))]), fun T => ((X.1.nth 2).int - (T.1.nth 2).int).toNat,
      ⟨T, S, hS, hCo⟩, ⟨[], rfl, ⟨rfl, rfl, rfl, rfl, rfl, trivial⟩, ⟨rfl, rfl, rfl, trivial⟩⟩, ?_⟩
    intro z
    obtain ⟨T, S, hS, hCo⟩ := z
    have hT40 : (T.nth 2).int < 40 := by
      have h1 := (hCo.time hS.oS hS.nS).1
      have h2 := I.tk
      have h3 := hS.tk
      omega
    refine ⟨fun h1 => ?_, fun h1 => ?_⟩
    · replace h1 : (ltB (T.nth 2).int (X.1.nth 2).int && ltB (T.nth 2).int 40) = true := h1
      rw [Bool.and_eq_true] at h1
      have h1 : (T.nth 2).int < (X.1.nth 2).int := ltT h1.1
      obtain ⟨q1, S', q2, q3⟩ := Cont.last hS hCo h1
      have q4 := ti_rgs hS.nT hS.oT q1
      have q5 := ti_top hS.nT hS.oT q1
      have nT := hS.nT
      have q6 : ((tickT T).nth 2).int = (T.nth 2).int + 1 := q4.2.2.1
      refine ⟨fun h2 => absurd h2 (by show ¬ (Go.Proofs.Ytelemmagiagohaa.tickE T != 0) = true; rw [q1]; decide), fun _ => ⟨⟨tickT T, S', q2, q3⟩, ⟨[], rfl, ⟨slot ?_, rfl, rfl, rfl, rfl, trivial⟩, ⟨rfl, rfl, rfl, trivial⟩⟩, ?_⟩⟩
      · show IntKind.u64.wrap ((T.nth 2).int + 1) = ((tickT T).nth 2).int
        rw [q6]; exact wrap_u64 (by omega) (by omega)
      · show ((X.1.nth 2).int - ((tickT T).nth 2).int).toNat < ((X.1.nth 2).int - (T.nth 2).int).toNat
        omega
    replace h1 : (ltB (T.nth 2).int (X.1.nth 2).int && ltB (T.nth 2).int 40) = false := h1
    have h1 : ¬ (T.nth 2).int < (X.1.nth 2).int := by
      rw [Bool.and_eq_false_iff, ltB_false, ltB_false] at h1
      omega
    have hXS := Cont.over hS hCo h1
    rw [← hXS] at hS
    obtain ⟨hbl, hbr⟩ := hS.below
    have bX := belT_ok (l := l.int) I.ok
    have bT := belT_ok (l := l.int) hS.oT
    refine ⟨fun h2 => absurd h2 ?_, fun _ => ?_⟩
    · show ¬ (stE T != 0 || (((belT X.1 l.int).nth 0).list.length : Int) != (((belT T l.int).nth 0).list.length : Int) || ((belT X.1 l.int).nth 2).int != ((belT T l.int).nth 2).int) = true
      rw [← bX, ← bT, hS.oT]
      show ¬ ((0 : Int) != 0 || ((belR X.1 l.int).length : Int) != ((belR T l.int).length : Int) || (X.1.nth 2).int != (T.nth 2).int) = true
      rw [hbl, hS.tk]; simp
    obtain ⟨P, hP⟩ : ∃ P, P = belR X.1 l.int := ⟨_, rfl⟩
    obtain ⟨Q, hQ⟩ : ∃ Q, Q = belR T l.int := ⟨_, rfl⟩
    rw [← hP, ← hQ] at hbl hbr
    have hP8 : P.length ≤ 8 := by
      have h1 := List.length_filter_le (keepR l.int) (rgs X.1)
      have h2 := (st_ok I.ok).1.1
      have : P.length = ((rgs X.1).filter (keepR l.int)).length := by rw [hP]; rfl
      have : nG X.1 = (rgs X.1).length := rfl
      omega
    refine ⟨{ j : Nat // j ≤ P.length }, 4, fun j => ([(18, .dat i64 (.I j.1)), (13, .ptr 3 storeS [] storeS), (11, .ptr 2 storeS [] storeS)],
      [(3, .box storeS (.dat storeS (.L [.L Q, T.nth 1, T.nth 2, T.nth 3]))), (2, .box storeS (.dat storeS (.L [.L P, X.1.nth 1, X.1.nth 2, X.1.nth 3])))]), fun j => P.length - j.1,
      ⟨0, Nat.zero_le _⟩, ⟨[], rfl, ⟨rfl, rfl, rfl, trivial⟩, ⟨bx (by rw [hQ]; exact bT.symm), bx (by rw [hP]; exact bX.symm), trivial⟩⟩, ?_⟩
    intro z
    obtain ⟨j, hj⟩ := z
    refine ⟨fun h1 => ?_, fun _ => Bears.bool rfl⟩
    have hlt : j < P.length := ltN h1
    clear h1
    have hltQ : j < Q.length := by omega
    obtain ⟨A, hA⟩ : ∃ A, A = P.getD j .Z := ⟨_, rfl⟩
    obtain ⟨B, hB⟩ : ∃ B, B = Q.getD j .Z := ⟨_, rfl⟩
    have hAB : SimR A B := by rw [hA, hB]; exact hbr j hlt
    refine ⟨ix hlt, ix hltQ, by kernel_rfl, ?_⟩
    refine ⟨{ k : Nat // k ≤ 64 }, 32, fun k => ([(21, .dat i64 (.I k.1)), (20, .ptr 26 ringS [] ringS), (19, .ptr 24 ringS [] ringS), (18, .dat i64 (.I j)), (13, .ptr 3 storeS [] storeS), (11, .ptr 2 storeS [] storeS)],
      [(26, .box ringS (.dat ringS (zr B k.1))), (24, .box ringS (.dat ringS (zr A k.1))), (3, .box storeS (.dat storeS (.L [.L Q, T.nth 1, T.nth 2, T.nth 3]))), (2, .box storeS (.dat storeS (.L [.L P, X.1.nth 1, X.1.nth 2, X.1.nth 3])))]), fun k => 64 - k.1,
      ⟨0, Nat.zero_le _⟩, ⟨[], rfl, ⟨rfl, rfl, rfl, rfl, rfl, rfl, trivial⟩, ⟨bx hB.symm, bx hA.symm, rfl, rfl, trivial⟩⟩, ?_⟩
    intro z
    obtain ⟨k, hk⟩ := z
    refine ⟨fun h1 => ?_, fun h1 => ?_⟩
    · have hkl : k < 64 := ltN (n := 64) h1
      clear h1
      have gk : 0 ≤ (k : Int) ∧ (k : Int) < 64 := by omega
      exact ⟨gk, gk, ⟨k + 1, hkl⟩, ⟨[], rfl, ⟨slot (i64_1 (n := k) (by omega)), rfl, rfl, rfl, rfl, rfl, trivial⟩, ⟨rfl, rfl, rfl, rfl, trivial⟩⟩, stepLt hkl⟩
    · have hend : k = 64 := geN (n := 64) hk h1
      subst hend
      refine ⟨fun h2 => absurd h2 ?_, fun _ => ⟨⟨j + 1, hlt⟩, ⟨[], rfl, ⟨slot (i64_1 (n := j) (by omega)), rfl, rfl, trivial⟩, ⟨rfl, rfl, trivial⟩⟩, stepLt hlt⟩⟩
      show ¬ (!eqD ringS (zr A 64) (zr B 64)) = true
      rw [zr_same hAB]; decide
theorem of_ok : SumOK Try.prog 24 sOf := sumOK_of_vc (c := c0T) (ctxT .nil) mixed Try.func24 rfl (by decide) @of_fun
theorem below_ok : SumOK Try.prog 4 sBelow := sumOK_of_vc (c := cBe) (CtxOK.of tabMOK refsTOK (.cons Cf.cfg_ok (.cons made_ok (.cons belT_ok' (.cons newT_ok' (.cons tickT_ok (.cons of_ok (.cons putT_ok (.cons awake_ok .nil)))))))) FunsOK.nil mpsTOK) mixed Try.func4 rfl (by decide) @below_fun
end Go.Proofs.Ytelemmagiagohaa
