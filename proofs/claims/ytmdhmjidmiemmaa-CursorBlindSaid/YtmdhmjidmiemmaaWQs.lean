/- Cursors in plain Lean: stores below a clearance, and their cursors. -/
import Derived.Test.YtmdhmjidmiemmaaWQr
namespace Go.Proofs.Ytmdhmjidmiemmaa
open Go Go.Vm Rg
set_option linter.unusedSimpArgs false
set_option linter.unusedVariables false
set_option maxRecDepth 10000
def keepL (l : Int) (x : D) : Bool := Cf.belowB (lbS x) l
def seL (s : D) (l : Int) (n : Nat) : List Nat := (List.range n).filter (seeB s l)
theorem rgs_range (s : D) : rgs s = (List.range (nG s)).map (rgAt s) := by
  apply List.ext_getElem
  · simp; rfl
  · intro i h1 h2
    simp only [List.getElem_map, List.getElem_range, rgAt, List.getD_eq_getElem?_getD, List.getElem?_eq_getElem h1]; rfl
theorem rgAt_mem {s r : D} (h : r ∈ rgs s) : ∃ i, i < nG s ∧ rgAt s i = r := mem_getD h
section
variable {s : D} (h : stE s = 0) (l : Int)
include h
theorem be_rgs : rgs (belT s l) = (rgs s).filter (keepR l) ∧ (belT s l).nth 1 = s.nth 1 ∧ (belT s l).nth 2 = s.nth 2 ∧ (belT s l).nth 3 = s.nth 3 := by
  rw [← belT_ok h]; exact ⟨rfl, rfl, rfl, rfl⟩
theorem be_sel : rgs (belT s l) = (seL s l (nG s)).map (rgAt s) := by
  rw [(be_rgs h l).1, rgs_range s, List.filter_map]; rfl
theorem be_flat : flat (lsts (belT s l)) = (flat (lsts s)).filter (keepL l) := by
  have hok := (st_ok h).1
  have hev : ∀ r, r ∈ rgs s → ∀ x, x ∈ evs r → keepL l x = keepR l r := fun r hr x hx => by
    obtain ⟨i, hi, rfl⟩ := rgAt_mem hr
    obtain ⟨j, hj, rfl⟩ := mem_getD hx
    rw [evs_len] at hj
    rw [evs_get hj, keepL, keepR]
    have : lbS (evAt (rgAt s i) j) = labG s i := (ev_id hok hi hj).1
    rw [this]; rfl
  have main : ∀ R : List D, (∀ r, r ∈ R → ∀ x, x ∈ evs r → keepL l x = keepR l r) → (((R.filter (keepR l)).map evs).flatten) = ((R.map evs).flatten).filter (keepL l) := by
    intro R
    induction R with
    | nil => intro _; rfl
    | cons r R ih =>
      intro hR
      have ih := ih fun r' hr' => hR r' (List.mem_cons_of_mem _ hr')
      have hr := hR r List.mem_cons_self
      rw [List.map_cons, List.flatten_cons, List.filter_append, ← ih]
      cases hk : keepR l r with
      | true =>
        rw [List.filter_cons_of_pos hk, List.map_cons, List.flatten_cons]
        rw [show (evs r).filter (keepL l) = evs r from List.filter_eq_self.2 fun x hx => by rw [hr x hx, hk]]
      | false =>
        rw [List.filter_cons_of_neg (by rw [hk]; decide)]
        rw [show (evs r).filter (keepL l) = [] from List.filter_eq_nil_iff.2 fun x hx => by rw [hr x hx, hk]; decide]; rfl
  rw [flat, flat, lsts, lsts, (be_rgs h l).1]
  exact main _ hev
theorem be_mrg : mrg (belT s l) = (mrg s).filter (keepL l) := by
  have hst : Strict keyO ((mrg s).filter (keepL l)) := (mrg_strict (st_adj h)).sublist List.filter_sublist
  have hperm : ((mrg s).filter (keepL l)).Perm (flat (lsts (belT s l))) := by
    rw [be_flat h l]; exact (srt_perm _).filter _
  exact (srt_eq ((hperm.map keyO).nodup_iff.1 (strict_nodup hst)) hperm (hst.imp fun h => by omega)).symm
end
theorem dup_pair {s : D} : dupG s = false ↔ (rgs s).Pairwise fun a b => (a.nth 0).int ≠ (b.nth 0).int := by
  rw [List.pairwise_iff_getElem, dupG]
  have hat : ∀ i (hi : i < (rgs s).length), labG s i = ((rgs s)[i].nth 0).int := fun i hi => by
    rw [labG, rgAt, List.getD_eq_getElem?_getD, List.getElem?_eq_getElem hi]; rfl
  constructor
  · intro h i j hi hj hij e
    rw [List.any_eq_false] at h
    have h1 := h j (by rw [List.mem_range]; exact hj)
    apply h1
    rw [List.any_eq_true]
    exact ⟨i, by rw [List.mem_range]; exact hij, by rw [hat i hi, hat j hj, e, beq_self_eq_true]⟩
  · intro h
    refine anyQ_no fun i hi => anyQ_no fun k hk => ?_
    have := h k i (by have : i < (rgs s).length := hi; omega) hi hk
    rw [hat k (by have : i < (rgs s).length := hi; omega), hat i hi]
    exact beq_eq_false_iff_ne.2 this
theorem be_right {s : D} (h : stE s = 0) (l : Int) : stE (belT s l) = 0 := by
  obtain ⟨hok, hd, hr, hn⟩ := st_ok h
  obtain ⟨h1, h2, h3, h4⟩ := be_rgs h l
  have hsub : (rgs (belT s l)).Sublist (rgs s) := by rw [h1]; exact List.filter_sublist
  refine st_zero ⟨?_, fun i hi => ?_⟩ ?_ ?_ ?_
  · have := hsub.length_le
    have h8 : (rgs s).length ≤ 8 := hok.1
    show (rgs (belT s l)).length ≤ 8
    omega
  · obtain ⟨k, hk, e⟩ := rgAt_mem (hsub.subset (getD_mem (l := rgs (belT s l)) hi))
    have : chk (rgAt s k) = 0 := hok.2 k hk
    rw [e] at this; exact this
  · exact dup_pair.2 ((dup_pair.1 hd).sublist hsub)
  · rw [rngG] at hr ⊢
    rw [h2, h3, h4]; exact hr
  · obtain ⟨n1, n2, n3⟩ := nu_ok hn
    have hmono : (mrg s).Pairwise fun a b => tkO a ≤ tkO b := mono_of_adj fun i hi => by
      have := adjL_no n2 i hi
      rw [adjB, Bool.or_eq_false_iff, ltB_false] at this
      exact this.2
    refine nu_0 ?_ ?_ ?_
    · rw [be_mrg h l, List.any_eq_false]
      intro x hx
      rw [List.any_eq_false] at n1
      have := n1 x ((List.mem_filter.1 hx).1)
      rw [lateG] at this ⊢
      rw [h2, h3]; exact this
    · rw [be_mrg h l]
      have hst : Strict keyO ((mrg s).filter (keepL l)) := (mrg_strict (st_adj h)).sublist List.filter_sublist
      have hmo := hmono.sublist (List.filter_sublist (p := keepL l))
      refine anyR_no fun k hk => ?_
      have h1 := adj_of_mono hmo (i := k) (j := k + 1) (by omega) (by omega)
      have h3 : keyO (((mrg s).filter (keepL l)).getD (k + 1) .Z) ≠ keyO (((mrg s).filter (keepL l)).getD k .Z) := by
        have := List.pairwise_iff_getElem.1 hst k (k + 1) (by omega) (by omega) (by omega)
        rw [List.getD_eq_getElem?_getD, List.getD_eq_getElem?_getD, List.getElem?_eq_getElem (by omega), List.getElem?_eq_getElem (by omega)]
        simp only [Option.getD_some]; omega
      rw [adjB, Bool.or_eq_false_iff, beq_eq_false_iff_ne, ltB_false]
      exact ⟨h3, h1⟩
    · rw [be_mrg h l, List.any_eq_false]
      intro x hx
      rw [List.any_eq_false] at n3
      have := n3 x ((List.mem_filter.1 hx).1)
      rw [oldG] at this ⊢
      rw [h3, h4]; exact this
/-! ### The rings that are left, and the cursor of an older store -/
def seN (s : D) (l : Int) (j : Nat) : Nat := (seL s l (nG s)).getD j 0
theorem seN_lt {s : D} {l : Int} {j : Nat} (hj : j < (seL s l (nG s)).length) : seN s l j < nG s ∧ seeB s l (seN s l j) = true := by
  have : seN s l j ∈ seL s l (nG s) := by
    rw [seN, List.getD_eq_getElem?_getD, List.getElem?_eq_getElem hj]; exact List.getElem_mem hj
  rw [seL, List.mem_filter, List.mem_range] at this
  exact this
section
variable {s : D} (h : stE s = 0) (l : Int)
include h
theorem be_nG : nG (belT s l) = (seL s l (nG s)).length := by
  show (rgs (belT s l)).length = _
  rw [be_sel h l, List.length_map]
theorem be_at {j : Nat} (hj : j < nG (belT s l)) : rgAt (belT s l) j = rgAt s (seN s l j) := by
  have hj' := hj
  rw [be_nG h l] at hj'
  rw [rgAt, be_sel h l, seN, List.getD_eq_getElem?_getD, List.getD_eq_getElem?_getD, List.getElem?_map, List.getElem?_eq_getElem hj']; rfl
theorem be_see {j : Nat} (hj : j < nG (belT s l)) : seeB (belT s l) l j = true := by
  have := (seN_lt (s := s) (l := l) (j := j) (by rw [← be_nG h l]; exact hj)).2
  rw [seeB, labG, be_at h l hj]; exact this
end
theorem old_seL {o s : D} (O : OldS o s) (l : Int) : seL o l (nG o) = seL s l (nG s) := by
  rw [seL, seL, O.nG]
  exact List.filter_congr fun k _ => seeB_old O l k
theorem old_below {o s : D} (O : OldS o s) (h : stE s = 0) (l : Int) : OldS (belT o l) (belT s l) := by
  have hn : nG (belT o l) = nG (belT s l) := by rw [be_nG O.st l, be_nG h l, old_seL O]
  have hat : ∀ j, j < nG (belT s l) → rgAt (belT o l) j = rgAt o (seN s l j) := fun j hj => by
    rw [be_at O.st l (by rw [hn]; exact hj), seN, seN, old_seL O]
  refine ⟨be_right O.st l, hn, fun i => ?_, fun i hi => ?_⟩
  · by_cases hi : i < nG (belT s l)
    · rw [labG, labG, hat i hi, be_at h l hi]; exact O.lab _
    · have e1 : rgAt (belT o l) i = .Z := by
        rw [rgAt, List.getD_eq_getElem?_getD, List.getElem?_eq_none (by show nG (belT o l) ≤ i; omega)]; rfl
      have e2 : rgAt (belT s l) i = .Z := by
        rw [rgAt, List.getD_eq_getElem?_getD, List.getElem?_eq_none (by show nG (belT s l) ≤ i; omega)]; rfl
      rw [labG, labG, e1, e2]
  · rw [nxR, nxR, hat i hi, be_at h l hi]
    exact O.nxt _ (seN_lt (by rw [← be_nG h l]; exact hi)).1
section
variable {o s : D} (O : OldS o s) (h : stE s = 0) (l : Int)
include O h
theorem bl_nxA {j : Nat} (hj : j < nG (belT s l)) : nxA (newQ (belT o l) l) j = nxA (newQ o l) (seN s l j) := by
  have O2 := old_below O h l
  have hs := seN_lt (s := s) (l := l) (j := j) (by rw [← be_nG h l]; exact hj)
  rw [newQ_nxA O2.st (by rw [O2.nG]; exact hj), newQ_nxA O.st (by rw [O.nG]; exact hs.1), seeB_old O2, be_see h l hj, if_pos rfl, seeB_old O, hs.2, if_pos rfl]
  rw [nxR, nxR, be_at O.st l (by rw [O2.nG]; exact hj), seN, seN, old_seL O]
theorem bl_wtF {j : Nat} (hj : j < nG (belT s l)) : wtF (belT s l) (newQ (belT o l) l) j = wtF s (newQ o l) (seN s l j) := by
  have O2 := old_below O h l
  have hs := seN_lt (s := s) (l := l) (j := j) (by rw [← be_nG h l]; exact hj)
  rw [wtF, wtF, (newQ_nx O2.st).1, (newQ_nx O.st).1, be_see h l hj, hs.2, be_at h l hj, bl_nxA O h l hj]
theorem bl_loR {j : Nat} (hj : j < nG (belT s l)) : loR (belT s l) (newQ (belT o l) l) j = loR s (newQ o l) (seN s l j) := by
  have O2 := old_below O h l
  have hs := seN_lt (s := s) (l := l) (j := j) (by rw [← be_nG h l]; exact hj)
  rw [loR, loR, lsB, lsB, fiA, fiA, (newQ_nx O2.st).1, (newQ_nx O.st).1, be_see h l hj, hs.2, be_at h l hj, bl_nxA O h l hj]
end
theorem range_getD {α : Type} (L : List Nat) (f : Nat → α) : (List.range L.length).map (fun j => f (L.getD j 0)) = L.map f := by
  apply List.ext_getElem
  · simp
  · intro i h1 h2
    simp only [List.length_map, List.length_range] at h1
    simp only [List.getElem_map, List.getElem_range, List.getD_eq_getElem?_getD, List.getElem?_eq_getElem h1]; rfl
theorem wtU_range (s c : D) : ∀ n, wtU s c n = ((List.range n).map (wtF s c)).flatten
  | 0 => rfl
  | n + 1 => by rw [wtU, wtU_range s c n, List.range_succ, List.map_append, List.flatten_append]; simp
theorem wtU_sel (s c : D) : ∀ n, wtU s c n = ((seL s (cl c) n).map (wtF s c)).flatten
  | 0 => rfl
  | n + 1 => by
    rw [wtU, wtU_sel s c n, seL, seL, List.range_succ, List.filter_append, List.map_append, List.flatten_append]
    congr 1
    cases hb : seeB s (cl c) n with
    | true => rw [List.filter_cons_of_pos hb]; simp
    | false => rw [List.filter_cons_of_neg (by rw [hb]; decide), wtF_no hb]; rfl
theorem sumI_range (f : Nat → Int) : ∀ n, sumI f n = ((List.range n).map f).sum
  | 0 => rfl
  | n + 1 => by rw [sumI, sumI_range f n, List.range_succ, List.map_append, List.sum_append]; simp
theorem loR_sel (s c : D) : ∀ n, sumI (loR s c) n = ((seL s (cl c) n).map (loR s c)).sum
  | 0 => rfl
  | n + 1 => by
    rw [sumI, loR_sel s c n, seL, seL, List.range_succ, List.filter_append, List.map_append, List.sum_append]
    congr 1
    cases hb : seeB s (cl c) n with
    | true => rw [List.filter_cons_of_pos hb]; simp
    | false => rw [List.filter_cons_of_neg (by rw [hb]; decide), loR, lsB, hb]; rfl
section
variable {o s : D} (O : OldS o s) (h : stE s = 0) (l : Int)
include O h
theorem bl_wt : wtR (belT s l) (newQ (belT o l) l) = wtR s (newQ o l) := by
  rw [wtR_srt (be_right h l), wtR_srt h]
  congr 1
  rw [wtU_range, wtU_sel, (newQ_nx O.st).1, be_nG h l]
  congr 1
  rw [← range_getD (seL s l (nG s)) (wtF s (newQ o l))]
  refine List.map_congr_left fun j hj => ?_
  exact bl_wtF O h l (by rw [be_nG h l]; simpa using hj)
theorem bl_ls : lsT (belT s l) (newQ (belT o l) l) (nG (belT s l)) = lsT s (newQ o l) (nG s) := by
  rw [lsT_sum (fits_new (old_below O h l) (be_right h l) l) (Nat.le_refl _), lsT_sum (fits_new O h l) (Nat.le_refl _), loR_sel s (newQ o l), sumI_range, (newQ_nx O.st).1, be_nG h l]
  congr 1
  rw [← range_getD (seL s l (nG s)) (loR s (newQ o l))]
  refine List.map_congr_left fun j hj => ?_
  exact bl_loR O h l (by rw [be_nG h l]; simpa using hj)
theorem bl_tkE : tkE (belT s l) (newQ (belT o l) l) = tkE s (newQ o l) := by
  rw [tkE, tkE, (fits_new (old_below O h l) (be_right h l) l).ck, (fits_new O h l).ck, bl_wt O h l, bl_ls O h l]
theorem bl_tkX : tkX (belT s l) (newQ (belT o l) l) = tkX s (newQ o l) := by
  rw [tkX, tkX, bl_tkE O h l, bl_wt O h l]
/-- The numbers of the rings that are seen. -/
theorem bl_tkC : sameL u64 ((seL s l (min (nx (tkC s (newQ o l))).length (nG s))).map fun k => D.I ((nx (tkC s (newQ o l))).getD k .Z).int) (nx (tkC (belT s l) (newQ (belT o l) l))) = true := by
  by_cases he : tkE s (newQ o l) = 0
  · have he2 := bl_tkE O h l
    have e1 : nx (tkC s (newQ o l)) = tkU s (newQ o l) (nG s) := by rw [tkC, if_neg (by simp [he])]; rfl
    have e2 : nx (tkC (belT s l) (newQ (belT o l) l)) = tkU (belT s l) (newQ (belT o l) l) (nG (belT s l)) := by rw [tkC, if_neg (by simp [he2, he])]; rfl
    have el : (tkU s (newQ o l) (nG s)).length = nG s := upd_len
    rw [e1, e2, el, Nat.min_self, sameL, List.length_map]
    have el2 : (tkU (belT s l) (newQ (belT o l) l) (nG (belT s l))).length = nG (belT s l) := upd_len
    rw [el2, be_nG h l, beq_self_eq_true, Bool.true_and]
    refine all_range fun j hj => ?_
    have hjb : j < nG (belT s l) := by rw [be_nG h l]; exact hj
    have hs := seN_lt (s := s) (l := l) (j := j) hj
    have a1 : (((seL s l (nG s)).map fun k => D.I ((tkU s (newQ o l) (nG s)).getD k .Z).int).getD j .Z) = D.I ((tkU s (newQ o l) (nG s)).getD (seN s l j) .Z).int := by
      rw [List.getD_eq_getElem?_getD, List.getElem?_map, List.getElem?_eq_getElem hj, seN, List.getD_eq_getElem?_getD (l := seL s l (nG s)), List.getElem?_eq_getElem hj]; rfl
    rw [a1, ← be_nG h l, tkU, tkU, upd_get hs.1, upd_get hjb, bl_wt O h l, bl_nxA O h l hjb]
    have a2 : labG (belT s l) j = labG s (seN s l j) := by rw [labG, labG, be_at h l hjb]
    rw [a2]
    by_cases hb : (labG s (seN s l j) == lbS ((wtR s (newQ o l)).getD 0 .Z)) = true
    · rw [if_pos ⟨hs.1, hb⟩, if_pos ⟨hjb, hb⟩]; simp [eqD]
    · rw [if_neg (fun h' => hb h'.2), if_neg (fun h' => hb h'.2)]; simp [eqD]
  · have e1 : nx (tkC s (newQ o l)) = [] := by rw [tkC, if_pos he]; rfl
    have e2 : nx (tkC (belT s l) (newQ (belT o l) l)) = [] := by rw [tkC, if_pos (by rw [bl_tkE O h l]; exact he)]; rfl
    rw [e1, e2, List.length_nil, Nat.zero_min]; rfl
end
end Go.Proofs.Ytmdhmjidmiemmaa
