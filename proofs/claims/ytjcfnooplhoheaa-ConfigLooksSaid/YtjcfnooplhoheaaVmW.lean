/- A region that draws its order: what the evaluator has shown of the text's order holds of every order. Part 2. -/
import Derived.Test.YtjcfnooplhoheaaVmV
noncomputable section
namespace Go.Vm
open Go
set_option linter.unusedSimpArgs false

/-- What the evaluator has shown of operation i. -/
structure OpFact (c : Ctx) (N : Nat) (e : Env) (hp : Hp) (nx : Nat) (all : List Oper) (R : Nat → Rec) (i : Nat) (o : Oper) : Prop where
  key : keyOf (reAt R every i) all o.guard = some (R i).key
  dst : (R i).dst = o.dst
  dstOK : dstOK N (R i).key (reAt R every i) o.dst = true
  back : edgesBack i o.after.toList = true
  used : (R i).used = keySlots (R i).key ++ opTmps o.op.operands.toList
  does : (∃ a ta x y b, o.op = .pick a x y ∧ a = .tmp ta ∧ (R i).upd = [] ∧ rho e (reAt R every i) (R i).key a = .dat .bool b ∧
      pickHV b.bool x y (rho e (reAt R every i) ((ta, true, b.bool) :: (R i).key) x) (rho e (reAt R every i) ((ta, false, b.bool) :: (R i).key) y) = some (R i).hv) ∨
    ((∀ a x y, o.op ≠ .pick a x y) ∧ (R i).ids = idsHVs (lookHs o.op (o.op.operands.toList.map (rho e (reAt R every i) (R i).key))) ++ [] ∧ keyedOK (R i).key (nx + 2 * i) (R i).upd = true ∧
      ∃ nx' pre, vop c (nx + 2 * i) (rho e (reAt R every i) (R i).key) (resH (rhAt R every i) hp (R i).key (R i).ids) o.type o.op = some ⟨(R i).hv, (R i).upd, nx', pre⟩ ∧
        (KeyCond (R i).key → holds pre))
  conf : ∀ j, j < i → conf (R j) (R i) = true → reachA all o j = true

theorem edgeIn_iff {j : Nat} : ∀ {es : List Edge}, edgeIn j es = true → ∃ e ∈ es, e.on = j ∧ Region.binds .any e = true
  | [], h => by simp [edgeIn] at h
  | e :: es, h => by
    simp only [edgeIn, Bool.or_eq_true, Bool.and_eq_true] at h
    rcases h with ⟨h1, h2⟩ | h
    · refine ⟨e, by simp, Nat.eq_of_beq_eq_true h1, ?_⟩
      cases hg : e.ground <;> simp_all [bindB, Region.binds]
    · obtain ⟨e', h1, h2⟩ := edgeIn_iff h
      exact ⟨e', by simp [h1], h2⟩
theorem edgesBack_iff {i : Nat} : ∀ {es : List Edge}, edgesBack i es = true → ∀ e ∈ es, Region.binds .any e = true → e.on < i
  | [], _, e, he, _ => by simp at he
  | e0 :: es, h, e, he, hb => by
    simp only [edgesBack, Bool.and_eq_true, Bool.or_eq_true, Bool.not_eq_true'] at h
    rcases List.mem_cons.1 he with rfl | he
    · rcases h.1 with h1 | h1
      · exfalso
        cases hg : e.ground <;> simp_all [bindB, Region.binds]
      · exact blt_lt h1
    · exact edgesBack_iff h.2 e he hb

/-- What an operation comes after has been done where all that is done is closed under the edges. -/
theorem reachG_done {all : List Oper} {L : Nat → Bool} (hcl : ∀ (j : Nat) (oj : Oper), all[j]? = some oj → L j = true → ∀ x ∈ oj.after, Region.binds .any x = true → L x.on = true) :
    ∀ (fu : Nat) (o : Oper) (j : Nat), (∀ x ∈ o.after, Region.binds .any x = true → L x.on = true) → reachG all fu o j = true → L j = true
  | 0, o, j, hr, h => by
    obtain ⟨x, h1, h2, h3⟩ := edgeIn_iff (j := j) (es := o.after.toList) h
    rw [← h2]; exact hr x (by simpa using h1) h3
  | fu + 1, o, j, hr, h => by
    have h : reachS all (reachG all fu) o j = true := h
    unfold reachS at h
    rw [Bool.or_eq_true] at h
    rcases h with h | h
    · obtain ⟨x, h1, h2, h3⟩ := edgeIn_iff h
      rw [← h2]; exact hr x (by simpa using h1) h3
    · obtain ⟨x, h1, h2, og, hog, h3⟩ := reachE_mem h
      have hg : L x.on = true := hr x (by simpa using h1) (by cases hg : x.ground <;> simp_all [bindB, Region.binds])
      exact reachG_done hcl fu og j (hcl x.on og hog hg) h3

theorem reachA_done {all : List Oper} {L : Nat → Bool} (hcl : ∀ (j : Nat) (oj : Oper), all[j]? = some oj → L j = true → ∀ x ∈ oj.after, Region.binds .any x = true → L x.on = true) (o : Oper) (j : Nat)
    (hr : ∀ x ∈ o.after, Region.binds .any x = true → L x.on = true) (h : reachA all o j = true) : L j = true := by
  unfold reachA at h
  rw [Bool.or_eq_true] at h
  rcases h with h | h
  · exact reachG_done hcl 40 o j hr h
  · obtain ⟨x, h1, h2, oe, ho, h3⟩ := reachB_mem h
    have hg : L x.on = true := hr x (by simpa using h1) (by cases hg : x.ground <;> simp_all [bindB, Region.binds])
    exact reachG_done hcl 40 oe j (hcl x.on oe ho hg) h3

theorem confOK_iff {all : List Oper} {o : Oper} {cur : Rec} : ∀ {done : List (Nat × Rec)}, confOK all o cur done = true → ∀ x ∈ done, conf x.2 cur = true → reachA all o x.1 = true
  | [], _, x, hx, _ => by simp at hx
  | (j, r) :: l, h, x, hx, hc => by
    simp only [confOK, Bool.and_eq_true, Bool.or_eq_true, Bool.not_eq_true'] at h
    rcases List.mem_cons.1 hx with rfl | hx
    · rcases h.1 with h1 | h1
      · rw [hc] at h1; cases h1
      · exact h1
    · exact confOK_iff h.2 x hx hc

theorem imp'_holds {key : Key} {p : Prop} (h : imp' key p) (hk : KeyCond key) : p := by
  unfold imp' at h
  split at h
  · exact h
  · exact h hk

/-- The records of the operations that the evaluator has gone through. -/
theorem vcDraw_facts {c : Ctx} {N : Nat} {e : Env} {hp : Hp} {nx : Nat} {all : List Oper} {K : REnv → RH → Prop} : ∀ (os : List Oper) (i : Nat) (done : List (Nat × Rec)) (R : Nat → Rec), all.drop i = os →
    (∀ j, j < i → ∃ o, all[j]? = some o ∧ OpFact c N e hp nx all R j o) → (∀ j, j < i → (j, R j) ∈ done) → (∀ x ∈ done, x.1 < i ∧ x.2 = R x.1) →
    vcDraw c N e hp nx all os i done (reAt R every i) (rhAt R every i) K →
    ∃ R' : Nat → Rec, (∀ j, j < all.length → ∃ o, all[j]? = some o ∧ OpFact c N e hp nx all R' j o) ∧ K (reAt R' every all.length) (rhAt R' every all.length)
  | [], i, done, R, hd, hf, _, _, h => by
    have hl : all.length ≤ i := by
      have := congrArg List.length hd
      simp at this; omega
    simp only [vcDraw_nil] at h
    refine ⟨R, fun j hj => hf j (by omega), ?_⟩
    by_cases hi : i = all.length
    · rw [← hi]; exact h
    · obtain ⟨o, ho, _⟩ := hf all.length (by omega)
      simp at ho
  | o :: os, i, done, R, hd, hf, hin, hdone, h => by
    have hoi : all[i]? = some o := by
      have : (all.drop i)[0]? = some o := by rw [hd]; rfl
      simpa using this
    have hd' : all.drop (i + 1) = os := by
      have : (all.drop i).tail = os := by rw [hd]; rfl
      rw [← this, List.tail_drop]
    -- a further record
    have ext : ∀ r : Rec, ∀ k, k ≤ i → reAt (fun j => if j = i then r else R j) every k = reAt R every k ∧ rhAt (fun j => if j = i then r else R j) every k = rhAt R every k := by
      intro r k
      induction k with
      | zero => intro _; exact ⟨rfl, rfl⟩
      | succ k ih =>
        intro hk
        have hne : k ≠ i := by omega
        simp only [reAt_every, rhAt_every, if_neg hne]
        rw [(ih (by omega)).1, (ih (by omega)).2]
        exact ⟨rfl, rfl⟩
    have keep : ∀ r : Rec, ∀ j, j < i → ∃ o, all[j]? = some o ∧ OpFact c N e hp nx all (fun j => if j = i then r else R j) j o := by
      intro r j hj
      obtain ⟨o', h1, F⟩ := hf j hj
      have hne : j ≠ i := by omega
      obtain ⟨e1, e2⟩ := ext r j (by omega)
      refine ⟨o', h1, ?_⟩
      refine { key := ?_, dst := ?_, dstOK := ?_, back := F.back, used := ?_, does := ?_, conf := ?_ }
      · rw [e1]; simp only [if_neg hne]; exact F.key
      · simp only [if_neg hne]; exact F.dst
      · rw [e1]; simp only [if_neg hne]; exact F.dstOK
      · simp only [if_neg hne]; exact F.used
      · rw [e1, e2]; simp only [if_neg hne]; exact F.does
      · intro k hk
        have : k ≠ i := by omega
        simp only [if_neg hne, if_neg this]; exact F.conf k hk
    have step : ∀ (r : Rec), OpFact c N e hp nx all (fun j => if j = i then r else R j) i o → vcDraw c N e hp nx all os (i + 1) ((i, r) :: done) (addRe r.dst r.key r.hv (reAt R every i)) (addRh r.key r.upd (rhAt R every i)) K →
        ∃ R' : Nat → Rec, (∀ j, j < all.length → ∃ o, all[j]? = some o ∧ OpFact c N e hp nx all R' j o) ∧ K (reAt R' every all.length) (rhAt R' every all.length) := by
      intro r F hv
      refine vcDraw_facts os (i + 1) ((i, r) :: done) (fun j => if j = i then r else R j) hd' ?_ ?_ ?_ ?_
      · intro j hj
        by_cases hji : j = i
        · subst hji; exact ⟨o, hoi, F⟩
        · exact keep r j (by omega)
      · intro j hj
        by_cases hji : j = i
        · subst hji; simp
        · simp only [if_neg hji]; exact List.mem_cons_of_mem _ (hin j (by omega))
      · intro x hx
        rcases List.mem_cons.1 hx with rfl | hx
        · simp
        · obtain ⟨h1, h2⟩ := hdone x hx
          have : x.1 ≠ i := by omega
          simp only [if_neg this]
          exact ⟨by omega, h2⟩
      · rw [reAt_every, rhAt_every, (ext r i (Nat.le_refl _)).1, (ext r i (Nat.le_refl _)).2]
        simp only [if_pos]
        exact hv
    have confs : ∀ r : Rec, confOK all o r done = true → ∀ j, j < i → conf (R j) r = true → reachA all o j = true := fun r hc j hj hcf => confOK_iff hc (j, R j) (hin j hj) hcf
    rw [vcDraw_cons] at h
    unfold vcDrawS at h
    split at h
    · exact h.elim
    · rename_i key hkey
      split at h
      · exact h.elim
      · rename_i hok
        simp only [Bool.and_eq_true] at hok
        rw [opTmpsK_eq, keySlotsK_eq] at h
        split at h
        · rename_i pa px py hop
          split at h
          · rename_i ta d hdst
            split at h
            · rename_i b hb
              split at h
              · rename_i hv hpick
                rw [fHV_eq] at h
                split at h
                · rename_i hconf
                  refine step _ ?_ h
                  obtain ⟨e1, e2⟩ := ext ⟨some d, key, hv, [], keySlots key ++ opTmps o.op.operands.toList, []⟩ i (Nat.le_refl _)
                  refine { key := ?_, dst := ?_, dstOK := ?_, back := hok.2, used := ?_, does := ?_, conf := ?_ }
                  · rw [e1]; simp only [if_pos]; exact hkey
                  · simp only [if_pos]; exact hdst.symm
                  · rw [e1]; simp only [if_pos]; exact hok.1
                  · simp only [if_pos]
                  · left
                    rw [e1]
                    simp only [if_pos]
                    exact ⟨_, ta, px, py, b, hop, rfl, by trivial, hb, hpick⟩
                  · intro j hj
                    have : j ≠ i := by omega
                    simp only [if_pos, if_neg this]
                    exact confs _ hconf j hj
                · exact h.elim
              · exact h.elim
            · exact h.elim
          · exact h.elim
        · rename_i hnp
          rw [rhosK_eq, idssK_eq, resK_eq] at h
          split at h
          · rename_i hv upd nx' pre hvop
            rw [fHV_eq] at h
            split at h
            · rename_i hconf
              simp only [Bool.and_eq_true] at hconf
              have hpc : (KeyCond key → holds pre) ∧ vcDraw c N e hp nx all os (i + 1) ((i, ⟨o.dst, key, hv, upd, keySlots key ++ opTmps o.op.operands.toList, idsHVs (lookHs o.op (o.op.operands.toList.map (rho e (reAt R every i) key))) ++ []⟩) :: done)
                  (addRe o.dst key hv (reAt R every i)) (addRh key upd (rhAt R every i)) K := by
                rw [addRhK_eq] at h
                unfold preAnd at h
                split at h
                · exact ⟨fun _ => trivial, h⟩
                · exact ⟨fun hk => imp'_holds h.1 hk, h.2⟩
              refine step _ ?_ hpc.2
              obtain ⟨e1, e2⟩ := ext ⟨o.dst, key, hv, upd, keySlots key ++ opTmps o.op.operands.toList, idsHVs (lookHs o.op (o.op.operands.toList.map (rho e (reAt R every i) key))) ++ []⟩ i (Nat.le_refl _)
              refine { key := ?_, dst := ?_, dstOK := ?_, back := hok.2, used := ?_, does := ?_, conf := ?_ }
              · rw [e1]; simp only [if_pos]; exact hkey
              · simp only [if_pos]
              · rw [e1]; simp only [if_pos]; exact hok.1
              · simp only [if_pos]
              · right
                rw [e1, e2]
                simp only [if_pos]
                exact ⟨fun a x y he => hnp a x y he, by trivial, hconf.1, nx', pre, hvop, hpc.1⟩
              · intro j hj
                have : j ≠ i := by omega
                simp only [if_pos, if_neg this]
                exact confs _ hconf.2 j hj
            · exact h.elim
          · exact h.elim
end Go.Vm
