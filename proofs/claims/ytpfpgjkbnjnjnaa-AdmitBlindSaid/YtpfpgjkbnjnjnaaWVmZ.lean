/- A region that draws its order: what the evaluator has shown of the text's order holds of every order. Part 2. A region that draws its order: what the evaluator has shown of the text's order holds of every order. Part 3: every order. Code: sequences, tests, blocks, loops, calls that are walked into. The evaluator. The evaluator is right: code, functions, summaries. -/
import Derived.Test.YtpfpgjkbnjnjnaaWVmV
import Derived.Deep.LoopGhost
noncomputable section
namespace Go.Vm
open Go
set_option linter.unusedSimpArgs false

/-- What the evaluator has shown of operation i. -/
structure OpFact (c : Ctx) (N : Nat) (e : Env) (hp : Hp) (nx : Nat) (all : List Oper) (R : Nat → Rec) (i : Nat) (o : Oper) : Prop where
  key : keyOf (reAt R every i) all o.guard = some (R i).key
  dst : (R i).dst = o.dst
  dstOK : dstOK N (R i).key (reAt R every i) o.dst = true
  back : edgesBack i o.after.toList = true
  used : (R i).used = keySlots (R i).key ++ opTmps o.op.operands.toList
  does : (∃ a ta x y b, o.op = .pick a x y ∧ a = .tmp ta ∧ (R i).upd = [] ∧ rho e (reAt R every i) (R i).key a = .dat .bool b ∧
      pickHV b.bool x y (rho e (reAt R every i) ((ta, true, b.bool) :: (R i).key) x) (rho e (reAt R every i) ((ta, false, b.bool) :: (R i).key) y) = some (R i).hv) ∨
    ((∀ a x y, o.op ≠ .pick a x y) ∧ (R i).ids = idsHVs (lookHs o.op (o.op.operands.toList.map (rho e (reAt R every i) (R i).key))) ++ [] ∧ keyedOK (R i).key (nx + 2 * i) (R i).upd = true ∧
      ∃ nx' pre, vop c (nx + 2 * i) (rho e (reAt R every i) (R i).key) (resH (rhAt R every i) hp (R i).key (R i).ids) o.type o.op = some ⟨(R i).hv, (R i).upd, nx', pre⟩ ∧
        (KeyCond (R i).key → holds pre))
  conf : ∀ j, j < i → conf (R j) (R i) = true → reachA all o j = true

theorem edgeIn_iff {j : Nat} : ∀ {es : List Edge}, edgeIn j es = true → ∃ e ∈ es, e.on = j ∧ Region.binds .any e = true
  | [], h => by simp [edgeIn] at h
  | e :: es, h => by
    simp only [edgeIn, Bool.or_eq_true, Bool.and_eq_true] at h
    rcases h with ⟨h1, h2⟩ | h
    · refine ⟨e, by simp, Nat.eq_of_beq_eq_true h1, ?_⟩
      cases hg : e.ground <;> simp_all [bindB, Region.binds]
    · obtain ⟨e', h1, h2⟩ := edgeIn_iff h
      exact ⟨e', by simp [h1], h2⟩
theorem edgesBack_iff {i : Nat} : ∀ {es : List Edge}, edgesBack i es = true → ∀ e ∈ es, Region.binds .any e = true → e.on < i
  | [], _, e, he, _ => by simp at he
  | e0 :: es, h, e, he, hb => by
    simp only [edgesBack, Bool.and_eq_true, Bool.or_eq_true, Bool.not_eq_true'] at h
    rcases List.mem_cons.1 he with rfl | he
    · rcases h.1 with h1 | h1
      · exfalso
        cases hg : e.ground <;> simp_all [bindB, Region.binds]
      · exact blt_lt h1
    · exact edgesBack_iff h.2 e he hb

/-- What an operation comes after has been done where all that is done is closed under the edges. -/
theorem reachG_done {all : List Oper} {L : Nat → Bool} (hcl : ∀ (j : Nat) (oj : Oper), all[j]? = some oj → L j = true → ∀ x ∈ oj.after, Region.binds .any x = true → L x.on = true) :
    ∀ (fu : Nat) (o : Oper) (j : Nat), (∀ x ∈ o.after, Region.binds .any x = true → L x.on = true) → reachG all fu o j = true → L j = true
  | 0, o, j, hr, h => by
    obtain ⟨x, h1, h2, h3⟩ := edgeIn_iff (j := j) (es := o.after.toList) h
    rw [← h2]; exact hr x (by simpa using h1) h3
  | fu + 1, o, j, hr, h => by
    have h : reachS all (reachG all fu) o j = true := h
    unfold reachS at h
    rw [Bool.or_eq_true] at h
    rcases h with h | h
    · obtain ⟨x, h1, h2, h3⟩ := edgeIn_iff h
      rw [← h2]; exact hr x (by simpa using h1) h3
    · obtain ⟨x, h1, h2, og, hog, h3⟩ := reachE_mem h
      have hg : L x.on = true := hr x (by simpa using h1) (by cases hg : x.ground <;> simp_all [bindB, Region.binds])
      exact reachG_done hcl fu og j (hcl x.on og hog hg) h3

theorem reachA_done {all : List Oper} {L : Nat → Bool} (hcl : ∀ (j : Nat) (oj : Oper), all[j]? = some oj → L j = true → ∀ x ∈ oj.after, Region.binds .any x = true → L x.on = true) (o : Oper) (j : Nat)
    (hr : ∀ x ∈ o.after, Region.binds .any x = true → L x.on = true) (h : reachA all o j = true) : L j = true := by
  unfold reachA at h
  rw [Bool.or_eq_true] at h
  rcases h with h | h
  · exact reachG_done hcl 40 o j hr h
  · obtain ⟨x, h1, h2, oe, ho, h3⟩ := reachB_mem h
    have hg : L x.on = true := hr x (by simpa using h1) (by cases hg : x.ground <;> simp_all [bindB, Region.binds])
    exact reachG_done hcl 40 oe j (hcl x.on oe ho hg) h3

theorem confOK_iff {all : List Oper} {o : Oper} {cur : Rec} : ∀ {done : List (Nat × Rec)}, confOK all o cur done = true → ∀ x ∈ done, conf x.2 cur = true → reachA all o x.1 = true
  | [], _, x, hx, _ => by simp at hx
  | (j, r) :: l, h, x, hx, hc => by
    simp only [confOK, Bool.and_eq_true, Bool.or_eq_true, Bool.not_eq_true'] at h
    rcases List.mem_cons.1 hx with rfl | hx
    · rcases h.1 with h1 | h1
      · rw [hc] at h1; cases h1
      · exact h1
    · exact confOK_iff h.2 x hx hc

theorem imp'_holds {key : Key} {p : Prop} (h : imp' key p) (hk : KeyCond key) : p := by
  unfold imp' at h
  split at h
  · exact h
  · exact h hk

/-- The records of the operations that the evaluator has gone through. -/
theorem vcDraw_facts {c : Ctx} {N : Nat} {e : Env} {hp : Hp} {nx : Nat} {all : List Oper} {K : REnv → RH → Prop} : ∀ (os : List Oper) (i : Nat) (done : List (Nat × Rec)) (R : Nat → Rec), all.drop i = os →
    (∀ j, j < i → ∃ o, all[j]? = some o ∧ OpFact c N e hp nx all R j o) → (∀ j, j < i → (j, R j) ∈ done) → (∀ x ∈ done, x.1 < i ∧ x.2 = R x.1) →
    vcDraw c N e hp nx all os i done (reAt R every i) (rhAt R every i) K →
    ∃ R' : Nat → Rec, (∀ j, j < all.length → ∃ o, all[j]? = some o ∧ OpFact c N e hp nx all R' j o) ∧ K (reAt R' every all.length) (rhAt R' every all.length)
  | [], i, done, R, hd, hf, _, _, h => by
    have hl : all.length ≤ i := by
      have := congrArg List.length hd
      simp at this; omega
    simp only [vcDraw_nil] at h
    refine ⟨R, fun j hj => hf j (by omega), ?_⟩
    by_cases hi : i = all.length
    · rw [← hi]; exact h
    · obtain ⟨o, ho, _⟩ := hf all.length (by omega)
      simp at ho
  | o :: os, i, done, R, hd, hf, hin, hdone, h => by
    have hoi : all[i]? = some o := by
      have : (all.drop i)[0]? = some o := by rw [hd]; rfl
      simpa using this
    have hd' : all.drop (i + 1) = os := by
      have : (all.drop i).tail = os := by rw [hd]; rfl
      rw [← this, List.tail_drop]
    -- a further record
    have ext : ∀ r : Rec, ∀ k, k ≤ i → reAt (fun j => if j = i then r else R j) every k = reAt R every k ∧ rhAt (fun j => if j = i then r else R j) every k = rhAt R every k := by
      intro r k
      induction k with
      | zero => intro _; exact ⟨rfl, rfl⟩
      | succ k ih =>
        intro hk
        have hne : k ≠ i := by omega
        simp only [reAt_every, rhAt_every, if_neg hne]
        rw [(ih (by omega)).1, (ih (by omega)).2]
        exact ⟨rfl, rfl⟩
    have keep : ∀ r : Rec, ∀ j, j < i → ∃ o, all[j]? = some o ∧ OpFact c N e hp nx all (fun j => if j = i then r else R j) j o := by
      intro r j hj
      obtain ⟨o', h1, F⟩ := hf j hj
      have hne : j ≠ i := by omega
      obtain ⟨e1, e2⟩ := ext r j (by omega)
      refine ⟨o', h1, ?_⟩
      refine { key := ?_, dst := ?_, dstOK := ?_, back := F.back, used := ?_, does := ?_, conf := ?_ }
      · rw [e1]; simp only [if_neg hne]; exact F.key
      · simp only [if_neg hne]; exact F.dst
      · rw [e1]; simp only [if_neg hne]; exact F.dstOK
      · simp only [if_neg hne]; exact F.used
      · rw [e1, e2]; simp only [if_neg hne]; exact F.does
      · intro k hk
        have : k ≠ i := by omega
        simp only [if_neg hne, if_neg this]; exact F.conf k hk
    have step : ∀ (r : Rec), OpFact c N e hp nx all (fun j => if j = i then r else R j) i o → vcDraw c N e hp nx all os (i + 1) ((i, r) :: done) (addRe r.dst r.key r.hv (reAt R every i)) (addRh r.key r.upd (rhAt R every i)) K →
        ∃ R' : Nat → Rec, (∀ j, j < all.length → ∃ o, all[j]? = some o ∧ OpFact c N e hp nx all R' j o) ∧ K (reAt R' every all.length) (rhAt R' every all.length) := by
      intro r F hv
      refine vcDraw_facts os (i + 1) ((i, r) :: done) (fun j => if j = i then r else R j) hd' ?_ ?_ ?_ ?_
      · intro j hj
        by_cases hji : j = i
        · subst hji; exact ⟨o, hoi, F⟩
        · exact keep r j (by omega)
      · intro j hj
        by_cases hji : j = i
        · subst hji; simp
        · simp only [if_neg hji]; exact List.mem_cons_of_mem _ (hin j (by omega))
      · intro x hx
        rcases List.mem_cons.1 hx with rfl | hx
        · simp
        · obtain ⟨h1, h2⟩ := hdone x hx
          have : x.1 ≠ i := by omega
          simp only [if_neg this]
          exact ⟨by omega, h2⟩
      · rw [reAt_every, rhAt_every, (ext r i (Nat.le_refl _)).1, (ext r i (Nat.le_refl _)).2]
        simp only [if_pos]
        exact hv
    have confs : ∀ r : Rec, confOK all o r done = true → ∀ j, j < i → conf (R j) r = true → reachA all o j = true := fun r hc j hj hcf => confOK_iff hc (j, R j) (hin j hj) hcf
    rw [vcDraw_cons] at h
    unfold vcDrawS at h
    split at h
    · exact h.elim
    · rename_i key hkey
      split at h
      · exact h.elim
      · rename_i hok
        simp only [Bool.and_eq_true] at hok
        rw [opTmpsK_eq, keySlotsK_eq] at h
        split at h
        · rename_i pa px py hop
          split at h
          · rename_i ta d hdst
            split at h
            · rename_i b hb
              split at h
              · rename_i hv hpick
                rw [fHV_eq] at h
                split at h
                · rename_i hconf
                  refine step _ ?_ h
                  obtain ⟨e1, e2⟩ := ext ⟨some d, key, hv, [], keySlots key ++ opTmps o.op.operands.toList, []⟩ i (Nat.le_refl _)
                  refine { key := ?_, dst := ?_, dstOK := ?_, back := hok.2, used := ?_, does := ?_, conf := ?_ }
                  · rw [e1]; simp only [if_pos]; exact hkey
                  · simp only [if_pos]; exact hdst.symm
                  · rw [e1]; simp only [if_pos]; exact hok.1
                  · simp only [if_pos]
                  · left
                    rw [e1]
                    simp only [if_pos]
                    exact ⟨_, ta, px, py, b, hop, rfl, by trivial, hb, hpick⟩
                  · intro j hj
                    have : j ≠ i := by omega
                    simp only [if_pos, if_neg this]
                    exact confs _ hconf j hj
                · exact h.elim
              · exact h.elim
            · exact h.elim
          · exact h.elim
        · rename_i hnp
          rw [rhosK_eq, idssK_eq, resK_eq] at h
          split at h
          · rename_i hv upd nx' pre hvop
            rw [fHV_eq] at h
            split at h
            · rename_i hconf
              simp only [Bool.and_eq_true] at hconf
              have hpc : (KeyCond key → holds pre) ∧ vcDraw c N e hp nx all os (i + 1) ((i, ⟨o.dst, key, hv, upd, keySlots key ++ opTmps o.op.operands.toList, idsHVs (lookHs o.op (o.op.operands.toList.map (rho e (reAt R every i) key))) ++ []⟩) :: done)
                  (addRe o.dst key hv (reAt R every i)) (addRh key upd (rhAt R every i)) K := by
                rw [addRhK_eq] at h
                unfold preAnd at h
                split at h
                · exact ⟨fun _ => trivial, h⟩
                · exact ⟨fun hk => imp'_holds h.1 hk, h.2⟩
              refine step _ ?_ hpc.2
              obtain ⟨e1, e2⟩ := ext ⟨o.dst, key, hv, upd, keySlots key ++ opTmps o.op.operands.toList, idsHVs (lookHs o.op (o.op.operands.toList.map (rho e (reAt R every i) key))) ++ []⟩ i (Nat.le_refl _)
              refine { key := ?_, dst := ?_, dstOK := ?_, back := hok.2, used := ?_, does := ?_, conf := ?_ }
              · rw [e1]; simp only [if_pos]; exact hkey
              · simp only [if_pos]
              · rw [e1]; simp only [if_pos]; exact hok.1
              · simp only [if_pos]
              · right
                rw [e1, e2]
                simp only [if_pos]
                exact ⟨fun a x y he => hnp a x y he, by trivial, hconf.1, nx', pre, hvop, hpc.1⟩
              · intro j hj
                have : j ≠ i := by omega
                simp only [if_pos, if_neg this]
                exact confs _ hconf.2 j hj
            · exact h.elim
          · exact h.elim
end Go.Vm

noncomputable section
namespace Go.Vm
open Go
open Classical
set_option linter.unusedSimpArgs false

/-- Nothing of the new objects but those of the operations that are done. -/
def FreshAt (nx n : Nat) (L : Nat → Bool) (loc : Loc) : Prop := ∀ o, nx ≤ o → (∀ i, i < n → L i = true → o ≠ nx + 2 * i ∧ o ≠ nx + 2 * i + 1) → loc o = none

structure DInv (B : MB) (w0 : Base) (N : Nat) (e : Env) (hp : Hp) (nx : Nat) (all : List Oper) (R : Nat → Rec) (g : Ghost) (loc : Loc) (L : Nat → Bool) (a : Act) (w : World) : Prop where
  F : FRel B g loc N e (reAt R L all.length) a
  H : HeapRel w0 (hAt a.tmps (rhAt R L all.length) hp) g loc w
  fresh : FreshAt nx all.length L loc
  closed : ∀ j oj, all[j]? = some oj → L j = true → ∀ x ∈ oj.after, Region.binds .any x = true → L x.on = true

theorem conf_spec {a b : Rec} (h : conf a b = false) : (∀ d, a.dst = some d → d ∉ b.used) ∧ (∀ d, b.dst = some d → d ∉ a.used) ∧ (∀ d, a.dst = some d → b.dst ≠ some d) ∧
    (∀ o, turns a o → o ∉ b.ids) ∧ (∀ o, turns b o → o ∉ a.ids) ∧ (∀ o, turns a o → ¬ turns b o) := by
  simp only [conf, Bool.or_eq_false_iff] at h
  obtain ⟨⟨⟨⟨⟨h1, h2⟩, h3⟩, h4⟩, h5⟩, h6⟩ := h
  have inter : ∀ (us : List (Nat × VO)) (l : List Nat), interU us l = false → ∀ o, lk us o ≠ none → o ∉ l := by
    intro us
    induction us with
    | nil => intro l _ o ho; simp [lk] at ho
    | cons u us ih =>
      intro l h o ho
      obtain ⟨k, vo⟩ := u
      simp only [interU, Bool.or_eq_false_iff] at h
      rw [lk_cons] at ho
      split at ho
      · rename_i e; subst e
        intro hm
        rw [memN_iff.2 hm] at h
        simp at h
      · exact ih l h.2 o ho
  have interUU : ∀ (us vs : List (Nat × VO)), interUU us vs = false → ∀ o, lk us o ≠ none → lk vs o = none := by
    intro us
    induction us with
    | nil => intro l _ o ho; simp [lk] at ho
    | cons u us ih =>
      intro vs h o ho
      obtain ⟨k, vo⟩ := u
      simp only [Vm.interUU, Bool.or_eq_false_iff] at h
      rw [lk_cons] at ho
      split at ho
      · rename_i e; subst e
        cases hv : lk vs k with
        | none => rfl
        | some v => rw [hv] at h; simp at h
      · exact ih vs h.2 o ho
  refine ⟨?_, ?_, ?_, ?_, ?_, ?_⟩
  · intro d hd hm
    rw [hd] at h1
    simp only [dstIn] at h1
    rw [memN_iff.2 hm] at h1; cases h1
  · intro d hd hm
    rw [hd] at h2
    simp only [dstIn] at h2
    rw [memN_iff.2 hm] at h2; cases h2
  · intro d hd hd'
    rw [hd, hd'] at h3
    simp [dstEq] at h3
  · exact fun o ho => inter _ _ h4 o ho
  · exact fun o ho => inter _ _ h5 o ho
  · intro o ho h9
    exact h9 (interUU _ _ h6 o ho)

theorem mem_keySlots {s : Nat} {b x : Bool} : ∀ {k : Key}, (s, b, x) ∈ k → s ∈ keySlots k
  | (s', b', x') :: k, h => by
    rcases List.mem_cons.1 h with h | h
    · simp only [Prod.mk.injEq] at h; simp [keySlots, h.1]
    · simp [keySlots, mem_keySlots h]

theorem keySlot_of_not_mem {d : Nat} : ∀ {k : Key}, d ∉ keySlots k → ∀ x ∈ k, x.1 ≠ d
  | (s, b, y) :: k, h, x, hx => by
    simp only [keySlots, List.mem_cons, not_or] at h
    rcases List.mem_cons.1 hx with rfl | hx
    · exact fun e => h.1 e.symm
    · exact keySlot_of_not_mem h.2 x hx

theorem mem_opTmps {t : Nat} : ∀ {xs : List Operand}, Operand.tmp t ∈ xs → t ∈ opTmps xs
  | x :: xs, h => by
    rcases List.mem_cons.1 h with rfl | h
    · simp [opTmps]
    · have ih := mem_opTmps h
      cases x <;> simp [opTmps, ih]

theorem lk_mem {α : Type} {o : Nat} {v : α} : ∀ {l : List (Nat × α)}, lk l o = some v → (o, v) ∈ l
  | [], h => by simp [lk] at h
  | (k, v') :: l, h => by
    rw [lk_cons] at h
    split at h
    · rename_i e; subst e; simp only [Option.some.injEq] at h; subst h; simp
    · exact List.mem_cons_of_mem _ (lk_mem h)

theorem resH_lk {rh : RH} {hp : Hp} {key : Key} {o : Nat} {vo : VO} : ∀ {ids : List Nat}, lk (resH rh hp key ids) o = some vo → o ∈ ids ∧ ((∃ k, lk rh o = some (k, vo) ∧ keyLe k key = true) ∨ (lk rh o = none ∧ lk hp o = some vo))
  | [], h => by simp [resH, lk] at h
  | i :: ids, h => by
    simp only [resH] at h
    split at h
    · rename_i k v hk
      split at h
      · rename_i hle
        rw [lk_cons] at h
        split at h
        · rename_i e; subst e
          simp only [Option.some.injEq] at h; subst h
          exact ⟨by simp, .inl ⟨k, hk, hle⟩⟩
        · obtain ⟨h1, h2⟩ := resH_lk h; exact ⟨by simp [h1], h2⟩
      · obtain ⟨h1, h2⟩ := resH_lk h; exact ⟨by simp [h1], h2⟩
    · rename_i hk
      split at h
      · rename_i v hv
        rw [lk_cons] at h
        split at h
        · rename_i e; subst e
          simp only [Option.some.injEq] at h; subst h
          exact ⟨by simp, .inr ⟨hk, hv⟩⟩
        · obtain ⟨h1, h2⟩ := resH_lk h; exact ⟨by simp [h1], h2⟩
      · obtain ⟨h1, h2⟩ := resH_lk h; exact ⟨by simp [h1], h2⟩

/-! ### A region that draws its order and calls functions that are walked into: every order is gone through -/
def allIx (f : Nat → Oper → Prop) (os : List Oper) : Nat → Prop := @List.rec Oper (fun _ => Nat → Prop) (fun _ => True) (fun o _ ih i => f i o ∧ ih (i + 1)) os
theorem allIx_get {f : Nat → Oper → Prop} : ∀ {os : List Oper} {k : Nat}, allIx f os k → ∀ i o, os[i]? = some o → f (k + i) o
  | [], _, _, i, o, h => by simp at h
  | x :: os, k, ⟨h1, h2⟩, 0, o, h => by
    simp only [List.getElem?_cons_zero, Option.some.injEq] at h; subst h; exact h1
  | x :: os, k, ⟨h1, h2⟩, i + 1, o, h => by
    have := allIx_get h2 i o (by simpa using h)
    rw [show k + (i + 1) = k + 1 + i by omega]; exact this
def readyB (done : List Nat) (es : List Edge) : Bool := @List.rec Edge (fun _ => Bool) true (fun e _ ih => (!bindB e.ground || memN e.on done) && ih) es
theorem readyB_of {done : List Nat} : ∀ {es : List Edge}, (∀ e ∈ es, Region.binds .any e = true → e.on ∈ done) → readyB done es = true
  | [], _ => rfl
  | e :: es, h => by
    have h1 := readyB_of (es := es) fun x hx => h x (List.mem_cons_of_mem _ hx)
    show ((!bindB e.ground || memN e.on done) && readyB done es) = true
    rw [h1, Bool.and_true]
    cases hb : bindB e.ground with
    | false => rfl
    | true =>
      have hb2 : Region.binds .any e = true := by
        cases hg : e.ground <;> simp_all [bindB, Region.binds]
      rw [Bool.not_true, Bool.false_or]
      exact memN_iff.2 (h e (List.mem_cons_self ..) hb2)
def vcAny (c : Ctx) (inl : Cal → List HV → Hp → Nat → (HV → Hp → Nat → Prop) → Prop) (N : Nat) (e : Env) (all : List Oper) (fu : Nat) : List Nat → REnv → Hp → Nat → (REnv → Hp → Nat → Prop) → Prop :=
  @Nat.rec (fun _ => List Nat → REnv → Hp → Nat → (REnv → Hp → Nat → Prop) → Prop) (fun _ re hp nx K => K re hp nx)
    (fun _ ih done re hp nx K => allIx (fun i o => match memN i done || !readyB done o.after.toList with
      | true => True
      | false => vcOpsS c inl N e all o (fun re hp nx K => ih (i :: done) re hp nx K) re hp nx K) all 0) fu
theorem vcAny_succ (c : Ctx) (inl : Cal → List HV → Hp → Nat → (HV → Hp → Nat → Prop) → Prop) (N : Nat) (e : Env) (all : List Oper) (fu : Nat) (done : List Nat) (re : REnv) (hp : Hp) (nx : Nat) (K : REnv → Hp → Nat → Prop) :
    vcAny c inl N e all (fu + 1) done re hp nx K = allIx (fun i o => match memN i done || !readyB done o.after.toList with
      | true => True
      | false => vcOpsS c inl N e all o (fun re hp nx K => vcAny c inl N e all fu (i :: done) re hp nx K) re hp nx K) all 0 := rfl
/-- The two say the same. -/
def sameL {α : Type} (a b l : List (Nat × α)) : Prop := @List.rec (Nat × α) (fun _ => Prop) True (fun p _ ih => match p with
  | (t, _) => lk b t = lk a t ∧ ih) l
def coversL {α : Type} (a b : List (Nat × α)) : Bool := @List.rec (Nat × α) (fun _ => Bool) true (fun p _ ih => match p with
  | (t, _) => (match lk a t with
    | some _ => true
    | none => false) && ih) b
theorem sameL_get {α : Type} {a b : List (Nat × α)} : ∀ {l : List (Nat × α)}, sameL a b l → ∀ t v, lk l t = some v → lk b t = lk a t
  | [], _, t, v, h => by simp [lk] at h
  | (k, x) :: l, ⟨h1, h2⟩, t, v, h => by
    rw [lk_cons] at h
    split at h
    · rename_i e; subst e; exact h1
    · exact sameL_get h2 t v h
theorem coversL_get {α : Type} {a : List (Nat × α)} : ∀ {b : List (Nat × α)}, coversL a b = true → ∀ t v, lk b t = some v → ∃ u, lk a t = some u
  | [], _, t, v, h => by simp [lk] at h
  | (k, x) :: b, h0, t, v, h => by
    have h0 : ((match lk a k with
      | some _ => true
      | none => false) && coversL a b) = true := h0
    rw [Bool.and_eq_true] at h0
    rw [lk_cons] at h
    split at h
    · rename_i e; subst e
      cases hk : lk a k with
      | some u => exact ⟨u, rfl⟩
      | none => rw [hk] at h0; simp at h0
    · exact coversL_get h0.2 t v h
theorem same_lk {α : Type} {a b : List (Nat × α)} (h1 : sameL a b a) (h2 : coversL a b = true) (t : Nat) : lk a t = lk b t := by
  cases ha : lk a t with
  | some v => rw [sameL_get h1 t v ha, ha]
  | none =>
    cases hb : lk b t with
    | none => rfl
    | some v => obtain ⟨u, hu⟩ := coversL_get h2 t v hb; rw [ha] at hu; cases hu
def allBack (all : List Oper) : Nat → Bool := @List.rec Oper (fun _ => Nat → Bool) (fun _ => true) (fun o _ ih i => edgesBack i o.after.toList && ih (i + 1)) all
theorem allBack_get : ∀ {all : List Oper} {k : Nat}, allBack all k = true → ∀ i o, all[i]? = some o → edgesBack (k + i) o.after.toList = true
  | [], _, _, i, o, h => by simp at h
  | x :: os, k, h0, i, o, h => by
    have h0 : (edgesBack k x.after.toList && allBack os (k + 1)) = true := h0
    rw [Bool.and_eq_true] at h0
    cases i with
    | zero => simp only [List.getElem?_cons_zero, Option.some.injEq] at h; subst h; exact h0.1
    | succ i =>
      have := allBack_get h0.2 i o (by simpa using h)
      rw [show k + (i + 1) = k + 1 + i by omega]; exact this
/-- What every order is asked to lead to: what the text's order leads to. -/
def ordersOK (c : Ctx) (inl : Cal → List HV → Hp → Nat → (HV → Hp → Nat → Prop) → Prop) (N : Nat) (e : Env) (all : List Oper) (hp : Hp) (nx : Nat) (K : REnv → Hp → Nat → Prop) : Prop :=
  ∃ (re0 : REnv) (hp0 : Hp) (nx0 : Nat), (vcOps c inl N e all all [] hp nx fun re hp' nx' => re = re0 ∧ hp' = hp0 ∧ nx' = nx0) ∧ (allBack all 0 = true ∧ vcAny c inl N e all all.length [] [] hp nx fun re hp' nx' => (nx' = nx0 ∧ sameL re0 re re0 ∧ coversL re0 re = true) ∧ sameL hp0 hp' hp0 ∧ coversL hp0 hp' = true) ∧ K re0 hp0 nx0

section
variable {B : MB} {Fe : Fence} {fn : Nat} {P : Program} {c : Ctx} {w0 : Base} {N : Nat} {e : Env} {hp : Hp} {nx : Nat} {all : List Oper} {R : Nat → Rec}

theorem vop0_nx2 {c : Ctx} {nx : Nat} {ρ : Operand → HV} {hp : Hp} {ty : Nat} {op : Op} {ef : Ef} (h : vop0 c nx ρ hp ty op = some ef) : ef.nx ≤ nx + 2 := by
  cases op <;> simp only [vop0, reduceCtorEq] at h
  case call cl =>
    obtain ⟨callee, args, tys⟩ := cl
    cases callee with
    | builtin b => cases b <;> simp only [vop0, reduceCtorEq] at h <;> (repeat' split at h) <;> first | exact Nat.le_of_eq (appSub_nx h) | (simp only [Option.some.injEq] at h; subst h; first | exact Nat.le_add_right _ _ | exact Nat.le_refl _ | exact Nat.le_succ _) | cases h
    | invoke r m => simp [vop0] at h
    | value f =>
      simp only [vop0, fHVsO_eq] at h
      split at h
      · unfold doCall mutCall ownCall at h
        (repeat' split at h) <;> first | exact (ptrCall_nx h) ▸ Nat.le_add_right _ _ | (simp only [Option.some.injEq] at h; subst h; first | exact Nat.le_add_right _ _ | exact Nat.le_succ _) | cases h
      · cases h
  case makeFunc fn first caps => cases fn <;> simp only [vop0, reduceCtorEq] at h <;> (repeat' split at h) <;> first | (simp only [Option.some.injEq] at h; subst h; exact Nat.le_add_right _ _) | cases h
  all_goals ((repeat' split at h) <;> first | (simp only [Option.some.injEq] at h; subst h; first | exact Nat.le_add_right _ _ | exact Nat.le_refl _ | exact Nat.le_succ _) | cases h)
theorem vop_nx2 {c : Ctx} {nx : Nat} {ρ : Operand → HV} {hp : Hp} {ty : Nat} {op : Op} {ef : Ef} (h : vop c nx ρ hp ty op = some ef) : ef.nx ≤ nx + 2 := by
  obtain ⟨ef0, h0, rfl⟩ := vop_some h
  have := vop0_nx2 h0
  exact this

/-- **One operation, whenever its turn comes.** -/
theorem draw_step (hFo : FOK Fe) (hC : CtxOK P c) (hfacts : ∀ j, j < all.length → ∃ o, all[j]? = some o ∧ OpFact c N e hp nx all R j o) {Q : Exit → Act → World → Prop} {g : Ghost} {loc : Loc} {L L' : Nat → Bool} {a : Act} {w : World} {i : Nat} {o : Oper}
    (D : DInv B w0 N e hp nx all R g loc L a w) (ho : all[i]? = some o) (hi : L i = false) (hready : ∀ x ∈ o.after, Region.binds .any x = true → L x.on = true)
    (hL : ∀ j, j ≠ i → L' j = L j) (hi' : L' i = true) {K : Act → World → Prop} (hK : ∀ g' loc' a' w', g.le g' → loc.le loc' → DInv B w0 N e hp nx all R g' loc' L' a' w' → K a' w') :
    wpOpIn Fe fn P all.toArray Q i K a w := by
  have hil : i < all.length := (List.getElem?_eq_some_iff.1 ho).1
  obtain ⟨o', ho', F⟩ := hfacts i hil
  rw [ho] at ho'; simp only [Option.some.injEq] at ho'; subst ho'
  -- what conflicts is in its order
  have hbefore : ∀ j, j < i → conf (R j) (R i) = true → L j = true := by
    intro j hj hc
    exact reachA_done (fun j oj hoj hLj x hx hb => D.closed j oj hoj hLj x hx hb) o j hready (F.conf j hj hc)
  have hafter : ∀ j, i < j → j < all.length → L j = true → conf (R i) (R j) = false := by
    intro j hj hjl hLj
    cases hc : conf (R i) (R j) with
    | false => rfl
    | true =>
      obtain ⟨oj, hoj, Fj⟩ := hfacts j hjl
      have := reachA_done (fun j oj hoj hLj x hx hb => D.closed j oj hoj hLj x hx hb) oj i (fun x hx hb => D.closed j oj hoj hLj x hx hb) (Fj.conf i hj hc)
      rw [hi] at this; cases this
  have hconf_before : ∀ j, j < i → L j = false → conf (R j) (R i) = false := by
    intro j hj hLj
    cases hc : conf (R j) (R i) with
    | false => rfl
    | true => rw [hbefore j hj hc] at hLj; cases hLj
  -- the temporaries that it looks at stand as in the text's order
  have hslot : ∀ t, t ∈ (R i).used → lk (reAt R L all.length) t = lk (reAt R every i) t := by
    intro t ht
    rw [reAt_skip (i := i) all.length (by omega)]
    · refine reAt_same i fun j hj hd => ?_
      cases hLj : L j with
      | true => rfl
      | false => exact absurd ht ((conf_spec (hconf_before j hj hLj)).1 t hd)
    · intro j hij hjl hd
      by_cases hji : j = i
      · subst hji; exact hi
      · cases hLj : L j with
        | false => rfl
        | true => exact absurd ht ((conf_spec (hafter j (by omega) hjl hLj)).2.1 t hd)
  have hused := F.used
  have hrho : ∀ al x, (∀ t, x = .tmp t → t ∈ (R i).used) → rho e (reAt R L all.length) al x = rho e (reAt R every i) al x := by
    intro al x hx
    cases x with
    | tmp t => simp only [rho, hslot t (hx t rfl)]
    | _ => rfl
  have hopd : ∀ x ∈ o.op.operands, ∀ t, x = .tmp t → t ∈ (R i).used := by
    intro x hx t hxt
    subst hxt
    rw [hused]
    exact List.mem_append_right _ (mem_opTmps (by simpa using hx))
  -- its key
  have hkey : keyOf (reAt R L all.length) all o.guard = some (R i).key := by
    have hk := F.key
    cases hgd : o.guard with
    | none => rw [hgd] at hk; simpa [keyOf] using hk
    | some jw =>
      obtain ⟨j, want⟩ := jw
      rw [hgd] at hk
      simp only [keyOf] at hk ⊢
      split at hk
      · rename_i oj hoj
        split at hk
        · rename_i s hs
          have hks : s ∈ keySlots (R i).key := by
            split at hk
            · simp only [Option.some.injEq] at hk; rw [← hk]; simp [keySlots]
            · cases hk
          rw [hslot s (by rw [hused]; exact List.mem_append_left _ hks)]
          exact hk
        · cases hk
      · cases hk
  obtain ⟨hw, hks⟩ := keyOf_wanted D.F hkey o rfl
  -- its temporary
  have hdok := F.dstOK
  have hfree : ∀ d, o.dst = some d → d < N ∧ (∀ t k h, lk (reAt R L all.length) t = some (k, h) → ∀ x ∈ k, x.1 ≠ d) ∧ (∀ x ∈ (R i).key, x.1 ≠ d) := by
    intro d hd
    rw [hd] at hdok
    simp only [dstOK, Bool.and_eq_true, Bool.not_eq_true'] at hdok
    obtain ⟨⟨h1, h2⟩, h3⟩ := hdok
    refine ⟨blt_lt h1, ?_, keySlot_spec h3⟩
    intro t k h hl x hx
    obtain ⟨j, k1, k2, k3, k4, k5⟩ := reAt_mem _ hl
    subst k4
    by_cases hji : j < i
    · exact keyFree_all h2 _ (reAt_has k3 i hji) x hx
    · have hne : j ≠ i := by intro e; rw [e, hi] at k2; cases k2
      have := (conf_spec (hafter j (by omega) k1 k2)).1 d (by rw [F.dst, hd])
      obtain ⟨oj, hoj, Fj⟩ := hfacts j k1
      rw [Fj.used] at this
      exact keySlot_of_not_mem (fun hm => this (List.mem_append_left _ hm)) x hx
  -- the keys of what is done, and its own, do not hang on its temporary
  have hput : ∀ v, ∀ k, ((∃ j, j < all.length ∧ L j = true ∧ (R j).key = k) ∨ k = (R i).key) → (KeyHolds (a.put o.dst v).tmps k ↔ KeyHolds a.tmps k) := by
    intro v k hk
    cases hd : o.dst with
    | none => exact Iff.rfl
    | some d =>
      simp only [Act.put]
      refine holds_put ?_
      rcases hk with ⟨j, h1, h2, rfl⟩ | rfl
      · by_cases hji : j < i
        · rw [hd] at hdok
          simp only [dstOK, Bool.and_eq_true, Bool.not_eq_true'] at hdok
          cases hdj : (R j).dst with
          | some t => exact keyFree_all hdok.1.2 _ (reAt_has hdj i hji)
          | none =>
            obtain ⟨oj, hoj, Fj⟩ := hfacts j h1
            have hdk := Fj.dstOK
            rw [← Fj.dst, hdj] at hdk
            simp only [dstOK] at hdk
            split at hdk
            · rename_i hk0; intro x hx; rw [hk0] at hx; simp at hx
            · cases hdk
        · have hne : j ≠ i := by intro e; rw [e, hi] at h2; cases h2
          have := (conf_spec (hafter j (by omega) h1 h2)).1 d (by rw [F.dst, hd])
          obtain ⟨oj, hoj, Fj⟩ := hfacts j h1
          rw [Fj.used] at this
          exact keySlot_of_not_mem (fun hm => this (List.mem_append_left _ hm))
      · exact (hfree d hd).2.2
  -- the state behind it
  have mk : ∀ g' loc' v w', g.le g' → loc.le loc' → (KeyHolds a.tmps (R i).key → HRel g' loc' (R i).hv v) → (¬ KeyHolds a.tmps (R i).key → v = undef) →
      HeapRel w0 (if KeyHolds a.tmps (R i).key then (R i).upd ++ hAt a.tmps (rhAt R L all.length) hp else hAt a.tmps (rhAt R L all.length) hp) g' loc' w' →
      (∀ x, x ≠ nx + 2 * i → x ≠ nx + 2 * i + 1 → loc' x = loc x) → DInv B w0 N e hp nx all R g' loc' L' (a.put o.dst v) w' := by
    intro g' loc' v w' hg hl h1 h2 H' hloc
    refine { F := ?_, H := ?_, fresh := ?_, closed := ?_ }
    · have F1 := D.F.mono hg hl
      refine FRel.congr (re := addRe (R i).dst (R i).key (R i).hv (reAt R L all.length)) (fun t => reAt_insert hL hi hi' t all.length hil fun j hj1 hj2 hj3 d hd => (conf_spec (hafter j hj1 hj2 hj3)).2.2.1 d hd) ?_
      rw [F.dst]
      cases hd : o.dst with
      | none => exact F1
      | some d =>
        obtain ⟨k1, k2, k3⟩ := hfree d hd
        exact FRel.put F1 k1 k2 k3 h1 h2 hks
    · rw [hAt_congr (tmps := a.tmps)]
      · exact HeapRel.congr (fun x => hAt_insert hL hi hi' x all.length hil fun j hj1 hj2 hj3 y hy => (conf_spec (hafter j hj1 hj2 hj3)).2.2.2.2.2 y hy) H'
      · intro x hx
        obtain ⟨j, k1, k2, k3, k4⟩ := rhAt_mem _ x hx
        refine hput v _ ?_
        by_cases hji : j = i
        · subst hji; exact .inr k4.symm
        · exact .inl ⟨j, k1, by rw [← hL j hji]; exact k2, k4⟩
    · intro x hx hn
      have hxi := hn i hil hi'
      rw [hloc x hxi.1 hxi.2]
      refine D.fresh x hx fun j hj hLj => ?_
      by_cases hji : j = i
      · subst hji; exact hxi
      · exact hn j hj (by rw [hL j hji]; exact hLj)
    · intro j oj hoj hLj x hx hb
      by_cases hxi : x.on = i
      · rw [hxi]; exact hi'
      · rw [hL _ hxi]
        by_cases hji : j = i
        · subst hji
          rw [ho] at hoj; simp only [Option.some.injEq] at hoj; subst hoj
          exact hready x hx hb
        · exact D.closed j oj hoj (by rw [← hL j hji]; exact hLj) x hx hb
  have hget : all.toArray[i]? = some o := by simpa using ho
  unfold wpOpIn
  simp only [hget]
  split
  · rename_i hwant
    have hkh := hw.1 hwant
    rcases F.does with ⟨pa, ta, px, py, b, hop, hpa, hupd, hb, hpick⟩ | ⟨hnp, hids, hkeyed, nx', pre, hvop, hpre⟩
    · subst hpa
      have m1 : ∀ al, rho e (reAt R L all.length) al (.tmp ta) = rho e (reAt R every i) al (.tmp ta) := fun al => hrho al _ (hopd _ (by rw [hop]; simp [Op.operands]))
      have m2 : ∀ al, rho e (reAt R L all.length) al px = rho e (reAt R every i) al px := fun al => hrho al _ (hopd _ (by rw [hop]; simp [Op.operands]))
      have m3 : ∀ al, rho e (reAt R L all.length) al py = rho e (reAt R every i) al py := fun al => hrho al _ (hopd _ (by rw [hop]; simp [Op.operands]))
      rw [← m1] at hb
      rw [← m2, ← m3] at hpick
      have hc := (hb ▸ rho_rel D.F hkh (.tmp ta)).bool
      refine Oper.wp_of_opwp hFo (by rw [hop]; simp) (K := fun v w' => v = (if b.bool then a.eval px else a.eval py) ∧ w' = w) ?_ ?_
      · simp only [execOp, hop, Sem.run_bind, hc, asBool, Sem.run_pure, Result.andThen_ok, OpWp]
        exact ⟨by trivial, by trivial⟩
      · rintro v w' ⟨rfl, rfl⟩
        refine hK g loc _ _ (Ghost.le_refl g) (Loc.le_refl loc) (mk g loc _ _ (Ghost.le_refl g) (Loc.le_refl loc) ?_ (fun hn => absurd hkh hn) ?_ (fun _ _ _ => rfl))
        · intro _
          refine pick_sound hpick (fun v hv => by rw [hv]; rfl) (fun v hv => by rw [hv]; rfl) (fun hbt => rho_rel D.F ?_ px) (fun hbf => rho_rel D.F ?_ py)
          · intro z hz
            rcases List.mem_cons.1 hz with rfl | hz
            · show a.tmps.getD ta undef = .bool true
              rw [← hbt, ← hc]; rfl
            · exact hkh z hz
          · intro z hz
            rcases List.mem_cons.1 hz with rfl | hz
            · show a.tmps.getD ta undef = .bool false
              rw [← hbf, ← hc]; rfl
            · exact hkh z hz
        · rw [if_pos hkh, hupd]; exact D.H
    · have hkc := keyCond_of D.F hkh hks
      have hmono : vop c (nx + 2 * i) (rho e (reAt R L all.length) (R i).key) (hAt a.tmps (rhAt R L all.length) hp) o.type o.op = some ⟨(R i).hv, (R i).upd, nx', pre⟩ := by
        refine vop_mono (fun x hx => (hrho _ x (hopd x hx)).symm) ?_ hvop
        intro x vo hx
        obtain ⟨h1, h2⟩ := resH_lk hx
        have hag : lk (rhAt R L all.length) x = lk (rhAt R every i) x := by
          rw [rhAt_skip (i := i) all.length (by omega)]
          · refine rhAt_same i fun j hj ht => ?_
            cases hLj : L j with
            | true => rfl
            | false => exact absurd h1 ((conf_spec (hconf_before j hj hLj)).2.2.2.1 x ht)
          · intro j hij hjl ht
            by_cases hji : j = i
            · subst hji; exact hi
            · cases hLj : L j with
              | false => rfl
              | true => exact absurd h1 ((conf_spec (hafter j (by omega) hjl hLj)).2.2.2.2.1 x ht)
        rcases h2 with ⟨k, h3, h4⟩ | ⟨h3, h4⟩
        · exact lk_hAt_some (by rw [hag]; exact h3) (keyLe_holds h4 hkh)
        · rw [lk_hAt_none (by rw [hag]; exact h3)]; exact h4
      have hf1 : loc (nx + 2 * i) = none := D.fresh _ (by omega) fun j hj hLj => by
        have : j ≠ i := by intro e2; rw [e2, hi] at hLj; cases hLj
        omega
      have hf2 : loc (nx + 2 * i + 1) = none := D.fresh _ (by omega) fun j hj hLj => by
        have : j ≠ i := by intro e2; rw [e2, hi] at hLj; cases hLj
        omega
      refine Oper.wp_of_opwp hFo (vop_nodefer hvop) (vop_sound hC (fun x => rho_rel D.F hkh x) (fun v => rfl) D.H hf1 hf2 hmono (hpre hkc)) ?_
      rintro v w' ⟨g', loc', hg, hl, hloc, H', hr⟩
      refine hK g' loc' _ _ hg hl (mk g' loc' v w' hg hl (fun _ => hr) (fun hn => absurd hkh hn) (by rw [if_pos hkh]; exact H') ?_)
      intro x h1 h2
      refine hloc x ?_
      have := vop_nx2 hvop
      simp only at this ⊢
      omega
  · rename_i hwant
    have hkh : ¬ KeyHolds a.tmps (R i).key := fun hh => hwant (hw.2 hh)
    exact ⟨fun f _ => hFo.fn f, hK g loc _ _ (Ghost.le_refl g) (Loc.le_refl loc) (mk g loc undef w (Ghost.le_refl g) (Loc.le_refl loc) (fun hh => absurd hh hkh) (fun _ => rfl) (by rw [if_neg hkh]; exact D.H) (fun _ _ _ => rfl))⟩

/-- **Every order.** -/
theorem draw_any (hFo : FOK Fe) (hC : CtxOK P c) (hfacts : ∀ j, j < all.length → ∃ o, all[j]? = some o ∧ OpFact c N e hp nx all R j o) {Q : Exit → Act → World → Prop} {g0 : Ghost} {loc0 : Loc}
    (hQ : ∀ g loc a w, g0.le g → loc0.le loc → DInv B w0 N e hp nx all R g loc every a w → Q .normal a w) :
    ∀ (fuel : Nat) (listed : Array Bool) (a : Act) (w : World) (g : Ghost) (loc : Loc), listed.size = all.length → ((List.range all.length).filter fun j => !listed.getD j false).length = fuel → g0.le g → loc0.le loc →
      DInv B w0 N e hp nx all R g loc (fun j => listed.getD j false) a w → wpAnyIn Fe fn P .any all.toArray Q fuel listed a w := by
  have hall : ∀ (listed : Array Bool), listed.size = all.length → (∀ j, j < all.length → listed.getD j false = true) → ∀ a w g loc, g0.le g → loc0.le loc → DInv B w0 N e hp nx all R g loc (fun j => listed.getD j false) a w → Q .normal a w := by
    intro listed hsz hd a w g loc hg hl D
    have e1 : ∀ k, k ≤ all.length → reAt R (fun j => listed.getD j false) k = reAt R every k ∧ rhAt R (fun j => listed.getD j false) k = rhAt R every k := by
      intro k
      induction k with
      | zero => intro _; exact ⟨rfl, rfl⟩
      | succ k ih =>
        intro hk
        obtain ⟨i1, i2⟩ := ih (by omega)
        rw [reAt_every, rhAt_every, ← i1, ← i2]
        simp only [reAt, rhAt, hd k (by omega), if_true]
        exact ⟨trivial, trivial⟩
    obtain ⟨i1, i2⟩ := e1 all.length (Nat.le_refl _)
    refine hQ g loc a w hg hl { F := by rw [← i1]; exact D.F, H := by rw [← i2]; exact D.H, fresh := ?_, closed := fun _ _ _ _ _ _ _ => rfl }
    intro x hx hn
    exact D.fresh x hx fun j hj _ => hn j hj rfl
  -- the least that is not done may come
  have least : ∀ (listed : Array Bool), listed.size = all.length → Region.ready .any all.toArray listed = [] → ∀ j, j < all.length → listed.getD j false = true := by
    intro listed hsz hr j
    induction j using Nat.strongRecOn with
    | _ j ih =>
      intro hj
      cases hl : listed.getD j false with
      | true => rfl
      | false =>
        exfalso
        obtain ⟨o, ho, F⟩ := hfacts j hj
        have : j ∈ Region.ready .any all.toArray listed := by
          rw [mem_ready]
          refine ⟨?_, o, by simpa using ho, fun x hx hb => ?_⟩
          · have : j < listed.size := by omega
            simp [this] at hl ⊢; exact hl
          · have := edgesBack_iff F.back x (by simpa using hx) hb
            exact ih x.on this (by omega)
        rw [hr] at this; cases this
  intro fuel
  induction fuel with
  | zero =>
    intro listed a w g loc hsz hcount hg hl D
    have hd : ∀ j, j < all.length → listed.getD j false = true := by
      intro j hj
      cases h : listed.getD j false with
      | true => rfl
      | false =>
        have : j ∈ (List.range all.length).filter fun j => !listed.getD j false := by rw [List.mem_filter, List.mem_range, h]; exact ⟨hj, rfl⟩
        rw [List.length_eq_zero_iff.1 hcount] at this
        cases this
    refine ⟨?_, hall listed hsz hd a w g loc hg hl D⟩
    cases hr : Region.ready .any all.toArray listed with
    | nil => rfl
    | cons j l =>
      exfalso
      have : j ∈ Region.ready .any all.toArray listed := by rw [hr]; simp
      obtain ⟨h1, o, h2, _⟩ := mem_ready.1 this
      have hj : j < all.length := by
        have := (Array.getElem?_eq_some_iff.1 h2).1
        simpa using this
      have := hd j hj
      have hjs : j < listed.size := by omega
      simp [hjs] at h1 this
      rw [h1] at this; cases this
  | succ fuel ih =>
    intro listed a w g loc hsz hcount hg hl D
    refine ⟨fun hr => hall listed hsz (least listed hsz hr) a w g loc hg hl D, ?_⟩
    intro i hi
    obtain ⟨h1, o, h2, h3⟩ := mem_ready.1 hi
    have ho : all[i]? = some o := by simpa using h2
    have hil : i < all.length := (List.getElem?_eq_some_iff.1 ho).1
    have his : i < listed.size := by omega
    have hun : listed.getD i false = false := by simp [his] at h1 ⊢; exact h1
    have hset : ∀ j, j ≠ i → (listed.setIfInBounds i true).getD j false = listed.getD j false := fun j hj => getD_set_ne false (Ne.symm hj)
    have hset' : (listed.setIfInBounds i true).getD i false = true := by simp [his]
    refine draw_step hFo hC hfacts D ho hun (fun x hx hb => h3 x (by simpa using hx) hb) (L' := fun j => (listed.setIfInBounds i true).getD j false) hset hset' ?_
    intro g' loc' a' w' hg' hl' D'
    refine ih (listed.setIfInBounds i true) a' w' g' loc' (by simpa using hsz) ?_ (Ghost.le_trans hg hg') (Loc.le_trans hl hl') D'
    have hcnt : ∀ (l : List Nat), l.Nodup → i ∈ l → (l.filter fun j => !listed.getD j false).length = (l.filter fun j => !(listed.setIfInBounds i true).getD j false).length + 1 := by
      intro l
      induction l with
      | nil => intro _ h; cases h
      | cons x l ihl =>
        intro hnd hm
        rw [List.nodup_cons] at hnd
        by_cases hx : x = i
        · subst hx
          have hnot : ∀ y ∈ l, (!(listed.setIfInBounds x true).getD y false) = (!listed.getD y false) := fun y hy => by rw [hset y (by rintro rfl; exact hnd.1 hy)]
          have e9 : (l.filter fun j => !(listed.setIfInBounds x true).getD j false) = l.filter fun j => !listed.getD j false := List.filter_congr hnot
          rw [List.filter_cons, List.filter_cons, hun, hset', e9]
          simp
        · have hm' : i ∈ l := by
            rcases List.mem_cons.1 hm with h | h
            · exact absurd h.symm hx
            · exact h
          have := ihl hnd.2 hm'
          rw [List.filter_cons, List.filter_cons, hset x hx]
          by_cases hb : (!listed.getD x false) = true
          · rw [if_pos hb, if_pos hb, List.length_cons, List.length_cons, this]
          · rw [if_neg hb, if_neg hb, this]
    have := hcnt (List.range all.length) List.nodup_range (List.mem_range.2 hil)
    omega
theorem any_sound (hFo : FOK Fe) (hC : CtxOK P c) {g00 : Ghost} {loc00 : Loc} {inl : Cal → List HV → Hp → Nat → (HV → Hp → Nat → Prop) → Prop} (hI : InlOK P w0 g00 loc00 inl) (hback : allBack all 0 = true) {Q : Exit → Act → World → Prop} {K : REnv → Hp → Nat → Prop} :
    ∀ (fuel : Nat) (listed : Array Bool) (done : List Nat) (re : REnv) (hp : Hp) (nx : Nat) (a : Act) (w : World) (g : Ghost) (loc : Loc), listed.size = all.length → ((List.range all.length).filter fun j => !listed.getD j false).length = fuel → (∀ j, j < all.length → (listed.getD j false = true ↔ j ∈ done)) →
      vcAny c inl N e all fuel done re hp nx K → g00.le g → loc00.le loc → FRel B g loc N e re a → HeapN w0 hp nx g loc w →
      (∀ re hp nx g' loc' a w, K re hp nx → g.le g' → loc.le loc' → FRel B g' loc' N e re a → HeapN w0 hp nx g' loc' w → Q .normal a w) → wpAnyIn Fe fn P .any all.toArray Q fuel listed a w := by
  have least : ∀ (listed : Array Bool), listed.size = all.length → Region.ready .any all.toArray listed = [] → ∀ j, j < all.length → listed.getD j false = true := by
    intro listed hsz hr j
    induction j using Nat.strongRecOn with
    | _ j ih =>
      intro hj
      cases hl : listed.getD j false with
      | true => rfl
      | false =>
        exfalso
        obtain ⟨o, ho⟩ : ∃ o, all[j]? = some o := ⟨all[j], by simp [hj]⟩
        have : j ∈ Region.ready .any all.toArray listed := by
          rw [mem_ready]
          refine ⟨?_, o, by simpa using ho, fun x hx hb => ?_⟩
          · have : j < listed.size := by omega
            simp [this] at hl ⊢; exact hl
          · have h1 := allBack_get hback j o ho
            rw [Nat.zero_add] at h1
            have := edgesBack_iff h1 x (by simpa using hx) hb
            exact ih x.on this (by omega)
        rw [hr] at this; cases this
  intro fuel
  induction fuel with
  | zero =>
    intro listed done re hp nx a w g loc hsz hcount hdn hv hg0 hl0 F H hQ
    have hd : ∀ j, j < all.length → listed.getD j false = true := by
      intro j hj
      cases h : listed.getD j false with
      | true => rfl
      | false =>
        have : j ∈ (List.range all.length).filter fun j => !listed.getD j false := by rw [List.mem_filter, List.mem_range, h]; exact ⟨hj, rfl⟩
        rw [List.length_eq_zero_iff.1 hcount] at this
        cases this
    refine ⟨?_, hQ re hp nx g loc a w hv (Ghost.le_refl g) (Loc.le_refl loc) F H⟩
    cases hr : Region.ready .any all.toArray listed with
    | nil => rfl
    | cons j l =>
      exfalso
      have : j ∈ Region.ready .any all.toArray listed := by rw [hr]; simp
      obtain ⟨h1, o, h2, _⟩ := mem_ready.1 this
      have hj : j < all.length := by
        have := (Array.getElem?_eq_some_iff.1 h2).1
        simpa using this
      have := hd j hj
      have hjs : j < listed.size := by omega
      simp [hjs] at h1 this
      rw [h1] at this; cases this
  | succ fuel ih =>
    intro listed done re hp nx a w g loc hsz hcount hdn hv hg0 hl0 F H hQ
    refine ⟨fun hr => ?_, ?_⟩
    · exfalso
      have hd := least listed hsz hr
      have : ((List.range all.length).filter fun j => !listed.getD j false) = [] := by
        rw [List.filter_eq_nil_iff]
        intro j hj
        rw [hd j (List.mem_range.1 hj)]; simp
      rw [this] at hcount; simp at hcount
    intro i hi
    obtain ⟨h1, o, h2, h3⟩ := mem_ready.1 hi
    have ho : all[i]? = some o := by simpa using h2
    have hil : i < all.length := (List.getElem?_eq_some_iff.1 ho).1
    have his : i < listed.size := by omega
    have hun : listed.getD i false = false := by simp [his] at h1 ⊢; exact h1
    have hset : ∀ j, j ≠ i → (listed.setIfInBounds i true).getD j false = listed.getD j false := fun j hj => getD_set_ne false (Ne.symm hj)
    have hset' : (listed.setIfInBounds i true).getD i false = true := by simp [his]
    rw [vcAny_succ] at hv
    have hvi := allIx_get hv i o ho
    rw [Nat.zero_add] at hvi
    have hmd : memN i done = false := by
      rw [Bool.eq_false_iff]; intro h
      have := (hdn i hil).2 (memN_iff.1 h)
      rw [hun] at this; cases this
    have hrd : readyB done o.after.toList = true := readyB_of fun x hx hb => by
      have h4 := h3 x (by simpa using hx) hb
      have h5 : x.on < all.length := by
        have h6 := allBack_get hback i o ho
        rw [Nat.zero_add] at h6
        have := edgesBack_iff h6 x hx hb
        omega
      exact (hdn x.on h5).1 (by simpa using h4)
    rw [hmd, hrd] at hvi
    simp only [Bool.not_true, Bool.or_false] at hvi
    have h9 : all.toArray[i]? = some o := by simpa using ho
    unfold wpOpIn
    rw [h9]
    refine op_sound hFo hC hI hvi hg0 hl0 F H ?_
    intro re' hp' nx' g' loc' a' w' hv' hg hl F' H'
    refine ih (listed.setIfInBounds i true) (i :: done) re' hp' nx' a' w' g' loc' (by simpa using hsz) ?_ (fun j hj => ?_) hv' (Ghost.le_trans hg0 hg) (Loc.le_trans hl0 hl) F' H' fun r h n g2 l2 a2 w2 hk hg2 hl2 f2 h2 => hQ r h n g2 l2 a2 w2 hk (Ghost.le_trans hg hg2) (Loc.le_trans hl hl2) f2 h2
    · have hcnt : ∀ (l : List Nat), l.Nodup → i ∈ l → (l.filter fun j => !listed.getD j false).length = (l.filter fun j => !(listed.setIfInBounds i true).getD j false).length + 1 := by
        intro l
        induction l with
        | nil => intro _ h; cases h
        | cons x l ihl =>
          intro hnd hm
          rw [List.nodup_cons] at hnd
          by_cases hx : x = i
          · subst hx
            have hnot : ∀ y ∈ l, (!(listed.setIfInBounds x true).getD y false) = (!listed.getD y false) := fun y hy => by rw [hset y (by rintro rfl; exact hnd.1 hy)]
            have e9 : (l.filter fun j => !(listed.setIfInBounds x true).getD j false) = l.filter fun j => !listed.getD j false := List.filter_congr hnot
            rw [List.filter_cons, List.filter_cons, hun, hset', e9]
            simp
          · have hm' : i ∈ l := by
              rcases List.mem_cons.1 hm with h | h
              · exact absurd h.symm hx
              · exact h
            have := ihl hnd.2 hm'
            rw [List.filter_cons, List.filter_cons, hset x hx]
            by_cases hb : (!listed.getD x false) = true
            · rw [if_pos hb, if_pos hb, List.length_cons, List.length_cons, this]
            · rw [if_neg hb, if_neg hb, this]
      have := hcnt (List.range all.length) List.nodup_range (List.mem_range.2 hil)
      omega
    · by_cases hji : j = i
      · subst hji; rw [hset']; simp
      · rw [hset j hji, hdn j hj, List.mem_cons]
        exact ⟨fun h => .inr h, fun h => h.resolve_left hji⟩
end
end Go.Vm

noncomputable section
namespace Go.Vm
open Go
set_option linter.unusedSimpArgs false

/-- What a region has made becomes part of the environment; what hangs on a guard is forgotten. -/
def merge : REnv → Env → Env
  | [], e => e
  | (t, [], h) :: re, e => (t, h) :: merge re e
  | (t, _ :: _, _) :: re, e => (t, .und) :: merge re e
def mergeK (re : REnv) (e : Env) : (Env → Prop) → Prop :=
  @List.rec (Nat × Key × HV) (fun _ => (Env → Prop) → Prop) (fun K => K e) (fun p _ ih K => match p with
    | (t, k, h) => match k with
      | [] => ih fun e' => K ((t, h) :: e')
      | _ :: _ => ih fun e' => K ((t, .und) :: e')) re
theorem mergeK_eq : ∀ (re : REnv) (e : Env) (K : Env → Prop), mergeK re e K = K (merge re e)
  | [], _, _ => rfl
  | (t, [], h) :: re, e, K => mergeK_eq re e fun e' => K ((t, h) :: e')
  | (t, _ :: _, _) :: re, e, K => mergeK_eq re e fun e' => K ((t, .und) :: e')

/-- Of a region's slots only some are kept. -/
def mergeP' (ks : List Nat) (e : Env) : REnv → Env
  | [] => e
  | (t, k, h) :: re => match memN t ks with
    | true => match k with
      | [] => (t, h) :: mergeP' ks e re
      | _ :: _ => (t, .und) :: mergeP' ks e re
    | false => match lk e t with
      | none => mergeP' ks e re
      | some _ => (t, .und) :: mergeP' ks e re
def mergeP (ks : List Nat) (e : Env) (re : REnv) : (Env → Prop) → Prop :=
  @List.rec (Nat × Key × HV) (fun _ => (Env → Prop) → Prop) (fun K => K e) (fun p _ ih K => match p with
    | (t, k, h) => match memN t ks with
      | true => match k with
        | [] => ih fun e' => K ((t, h) :: e')
        | _ :: _ => ih fun e' => K ((t, .und) :: e')
      | false => match lk e t with
        | none => ih K
        | some _ => ih fun e' => K ((t, .und) :: e')) re
theorem mergeP_cons (ks : List Nat) (e : Env) (t : Nat) (k : Key) (h : HV) (re : REnv) (K : Env → Prop) : mergeP ks e ((t, k, h) :: re) K = match memN t ks with
    | true => match k with
      | [] => mergeP ks e re fun e' => K ((t, h) :: e')
      | _ :: _ => mergeP ks e re fun e' => K ((t, .und) :: e')
    | false => match lk e t with
      | none => mergeP ks e re K
      | some _ => mergeP ks e re fun e' => K ((t, .und) :: e') := rfl
theorem mergeP_eq (ks : List Nat) (e : Env) : ∀ (re : REnv) (K : Env → Prop), mergeP ks e re K = K (mergeP' ks e re)
  | [], _ => rfl
  | (t, k, h) :: re, K => by
    simp only [mergeP_cons, mergeP']
    split
    · split <;> exact mergeP_eq ks e re _
    · split <;> exact mergeP_eq ks e re _
theorem mergeP_none {ks : List Nat} {e : Env} {t : Nat} (hk : memN t ks = false) (he : lk e t = none) : ∀ re : REnv, lk (mergeP' ks e re) t = none
  | [] => he
  | (t0, k, h) :: re => by
    have ih := mergeP_none hk he re
    have ne : memN t0 ks = true → t0 ≠ t := fun h1 e1 => by rw [e1, hk] at h1; cases h1
    simp only [mergeP']
    split
    · rename_i h1
      split <;> (rw [lk_cons, if_neg (ne h1)]; exact ih)
    · split
      · exact ih
      · rename_i h1
        rw [lk_cons]
        split
        · rename_i e1; subst e1; rw [he] at h1; cases h1
        · exact ih
theorem mergeP_lk {ks : List Nat} {e : Env} {t : Nat} {h : HV} : ∀ {re : REnv}, lk (mergeP' ks e re) t = some h → h = .und ∨ lk re t = some ([], h) ∨ (lk re t = none ∧ lk e t = some h)
  | [], hl => .inr (.inr ⟨rfl, hl⟩)
  | (t0, k, h0) :: re, hl => by
    simp only [mergeP'] at hl
    have tail : lk (mergeP' ks e re) t = some h → t0 ≠ t → h = .und ∨ lk ((t0, k, h0) :: re) t = some ([], h) ∨ (lk ((t0, k, h0) :: re) t = none ∧ lk e t = some h) := by
      intro h1 h2
      rw [lk_cons, if_neg h2]
      exact mergeP_lk h1
    split at hl
    · split at hl
      · rw [lk_cons] at hl
        split at hl
        · rename_i e1; simp only [Option.some.injEq] at hl; subst hl; subst e1
          exact .inr (.inl (lk_same _ _ _))
        · rename_i e1; exact tail hl e1
      · rw [lk_cons] at hl
        split at hl
        · simp only [Option.some.injEq] at hl; exact .inl hl.symm
        · rename_i e1; exact tail hl e1
    · rename_i hm
      split at hl
      · rename_i hn
        by_cases e1 : t0 = t
        · subst e1; rw [mergeP_none hm hn] at hl; cases hl
        · exact tail hl e1
      · rw [lk_cons] at hl
        split at hl
        · simp only [Option.some.injEq] at hl; exact .inl hl.symm
        · rename_i e1; exact tail hl e1
def mergeC (c : Ctx) (N : Nat) (re : REnv) (e : Env) (K : Env → Prop) : Prop := match lk c.keep N with
  | none => mergeK re e K
  | some ks => mergeP ks e re K

def mergeH : RH → Hp → Hp
  | [], hp => hp
  | (o, [], vo) :: rh, hp => (o, vo) :: mergeH rh hp
  | (o, _ :: _, _) :: rh, hp => (o, .dead) :: mergeH rh hp
def mergeHK (rh : RH) (hp : Hp) : (Hp → Prop) → Prop :=
  @List.rec (Nat × Key × VO) (fun _ => (Hp → Prop) → Prop) (fun K => K hp) (fun p _ ih K => match p with
    | (o, k, vo) => match k with
      | [] => ih fun hp' => K ((o, vo) :: hp')
      | _ :: _ => ih fun hp' => K ((o, .dead) :: hp')) rh
theorem mergeHK_eq : ∀ (rh : RH) (hp : Hp) (K : Hp → Prop), mergeHK rh hp K = K (mergeH rh hp)
  | [], _, _ => rfl
  | (o, [], vo) :: rh, hp, K => mergeHK_eq rh hp fun hp' => K ((o, vo) :: hp')
  | (o, _ :: _, _) :: rh, hp, K => mergeHK_eq rh hp fun hp' => K ((o, .dead) :: hp')

/-! ### A state seen through fewer names -/
def renId (ρ : List (Nat × Nat)) (o : Nat) : Nat := match lk ρ o with
  | some o' => o'
  | none => o
/-- A name from a million on: a slice that is nil there, and is taken for one's own and empty here. -/
def ownR (k : Nat) (s : Sh) : HV := match Nat.ble 1000000 k with
  | true => .cst (.slice none 0 0)
  | false => .own k s
mutual
def ren (ρ : List (Nat × Nat)) : HV → HV
  | .ptr o r p s => .ptr (renId ρ o) r p s
  | .own o s => ownR (renId ρ o) s
  | .sub o s a b => .sub (renId ρ o) s a b
  | .yld o => .yld (renId ρ o)
  | .mp o ks vs => .mp (renId ρ o) ks vs
  | .mit o => .mit (renId ρ o)
  | .fn f cs => .fn f (rens ρ cs)
  | .st ss fs => .st ss (rens ρ fs)
  | .tup vs => .tup (rens ρ vs)
  | h => h
def rens (ρ : List (Nat × Nat)) : List HV → List HV
  | [] => []
  | h :: hs => ren ρ h :: rens ρ hs
end
def renVO (ρ : List (Nat × Nat)) : VO → VO
  | .box s v => .box s (ren ρ v)
  | .iter om since last seen => .iter (renId ρ om) since last seen
  | .vec fs => .vec (rens ρ fs)
  | vo => vo

abbrev ST := Env × Hp × Nat

def envEq (ρ : List (Nat × Nat)) (B : Env) : Env → Prop
  | [] => True
  | (t, h) :: es => lk B t = some (ren ρ h) ∧ envEq ρ B es
def nilVO : VO → Option VO
  | .grow s _ => some (.grow s [])
  | _ => none
/-- A slice of one's own may be given away on the way. -/
def frozen : Option VO → Option VO
  | some (.grow s xs) => some (.froz s xs)
  | x => x
def hpAt (ρ : List (Nat × Nat)) (B : Hp) (o : Nat) (vo : VO) : Option VO := match Nat.ble 1000000 (renId ρ o) with
  | true => nilVO vo
  | false => match vo with
    | .froz _ _ => frozen (lk B (renId ρ o))
    | _ => lk B (renId ρ o)
def hpEq (ρ : List (Nat × Nat)) (B : Hp) : Hp → Prop
  | [] => True
  | (o, vo) :: hs => hpAt ρ B o vo = some (renVO ρ vo) ∧ hpEq ρ B hs
def imgsNew (ρ : List (Nat × Nat)) : Hp → List Nat → Bool
  | [], _ => true
  | (o, _) :: hs, l => !memN (renId ρ o) l && imgsNew ρ hs (renId ρ o :: l)
def keysGe (n : Nat) : List (Nat × Nat) → Bool
  | [] => true
  | (o, _) :: ρ => Nat.ble n o && keysGe n ρ

mutual
def idsLt (n : Nat) : HV → Bool
  | .ptr o _ _ _ => Nat.blt o n
  | .own o _ => Nat.blt o n
  | .sub o _ _ _ => Nat.blt o n
  | .yld o => Nat.blt o n
  | .mp o _ _ => Nat.blt o n
  | .mit o => Nat.blt o n
  | .fn _ cs => idssLt n cs
  | .st _ fs => idssLt n fs
  | .tup vs => idssLt n vs
  | _ => true
def idssLt (n : Nat) : List HV → Bool
  | [] => true
  | h :: hs => idsLt n h && idssLt n hs
end
def envLt (n : Nat) : Env → Bool
  | [] => true
  | (_, h) :: es => idsLt n h && envLt n es
def hpLt (n : Nat) : Hp → Bool
  | [] => true
  | (o, .box _ v) :: hs => Nat.blt o n && (idsLt n v && hpLt n hs)
  | (o, .iter om _ _ _) :: hs => Nat.blt o n && (Nat.blt om n && hpLt n hs)
  | (o, .vec fs) :: hs => Nat.blt o n && (idssLt n fs && hpLt n hs)
  | (o, _) :: hs => Nat.blt o n && hpLt n hs

/-- The state B says all that A says, A's names from n0 on read by ρ. -/
def covers (n0 : Nat) (A B : ST) : Prop := ∃ ρ : List (Nat × Nat), (Nat.ble n0 A.2.2 && keysGe n0 ρ && imgsNew ρ A.2.1 [] && envLt A.2.2 A.1 && hpLt A.2.2 A.2.1 && Nat.ble B.2.2 1000000 && Nat.ble A.2.2 1000000) = true ∧ envEq ρ B.1 A.1 ∧ hpEq ρ B.2.1 A.2.1

/-! ### Results -/
def oneRes (c : Ctx) (e : Env) (hp : Hp) : ResultVar → HV
  | .tmp t => match lk e t with
    | some h => h
    | none => .und
  | .cell a t => match vop c 0 (rho e [] []) hp 0 (.load t (.tmp a)) with
    | some ef => ef.hv
    | none => .und
def resList (c : Ctx) (e : Env) (hp : Hp) (rs : List ResultVar) : (List HV → Prop) → Prop :=
  @List.rec ResultVar (fun _ => (List HV → Prop) → Prop) (fun K => K []) (fun r _ ih K => fHV (oneRes c e hp r) fun h => match h with
    | .und => False
    | .tup _ => False
    | h => ih fun l => K (h :: l)) rs
theorem resList_cons (c : Ctx) (e : Env) (hp : Hp) (r : ResultVar) (rs : List ResultVar) (K : List HV → Prop) : resList c e hp (r :: rs) K = fHV (oneRes c e hp r) fun h => match h with
    | .und => False
    | .tup _ => False
    | h => resList c e hp rs fun l => K (h :: l) := rfl
def retK (c : Ctx) (e : Env) (hp : Hp) (rs : List ResultVar) (K : HV → Prop) : Prop := resList c e hp rs fun l => match l with
  | [h] => K h
  | l => K (.tup l)

def argEnv : List HV → Nat → Env
  | [], _ => []
  | h :: hs, i => (i, h) :: argEnv hs (i + 1)
def argEnvK (hs : List HV) : Nat → (Env → Prop) → Prop :=
  @List.rec HV (fun _ => Nat → (Env → Prop) → Prop) (fun _ K => K []) (fun h _ ih i K => fHV h fun h => ih (i + 1) fun e => K ((i, h) :: e)) hs
theorem argEnvK_eq : ∀ (hs : List HV) (i : Nat) (K : Env → Prop), argEnvK hs i K = K (argEnv hs i)
  | [], _, _ => rfl
  | h :: hs, i, K => by show fHV h (fun h => argEnvK hs (i + 1) fun e => K ((i, h) :: e)) = _; rw [fHV_eq, argEnvK_eq hs]; rfl

/-- The end of a function. -/
def endK (c : Ctx) (F : Func) (K : HV → Hp → Nat → Prop) (x : Exit) (e : Env) (hp : Hp) (nx : Nat) : Prop := match x with
  | .normal => retK c e hp F.results.toList fun h => K h hp nx
  | .ret => retK c e hp F.results.toList fun h => K h hp nx
  | _ => False

/-- A call of a function, walked into. -/
def intoFun (c : Ctx) (vc : Nat → Code → Env → Hp → Nat → (Exit → Env → Hp → Nat → Prop) → Prop) (F : Func) (hs : List HV) (hp : Hp) (nx : Nat) (K : HV → Hp → Nat → Prop) : Prop := match F.body with
  | none => False
  | some b => match Nat.ble hs.length F.ntmps with
    | true => argEnvK hs 0 fun e => vc F.ntmps b e hp nx (endK c F K)
    | false => False
/-- How the body of a loop over a function is taken. -/
abbrev YH := List HV → Hp → Nat → (HV → Hp → Nat → Prop) → Prop
abbrev Ys := List (Nat × YH)

def into (c : Ctx) (ys : Ys) (vc : Nat → Code → Env → Hp → Nat → (Exit → Env → Hp → Nat → Prop) → Prop) (k : Cal) (hs : List HV) (hp : Hp) (nx : Nat) (K : HV → Hp → Nat → Prop) : Prop := match k with
  | .fn f => match lk c.funs f with
    | none => False
    | some F => intoFun c vc F hs hp nx K
  | .yl o => match lk ys o with
    | none => False
    | some h => h hs hp nx K

def zipEnv : List Nat → List HV → Env → Env
  | p :: ps, h :: hs, e => zipEnv ps hs ((p, h) :: e)
  | _, _, e => e
def zipEnvK (ps : List Nat) : List HV → Env → (Env → Prop) → Prop :=
  @List.rec Nat (fun _ => List HV → Env → (Env → Prop) → Prop) (fun _ e K => K e) (fun p _ ih hs e K => match hs with
    | h :: hs => ih hs ((p, h) :: e) K
    | [] => K e) ps
theorem zipEnvK_eq : ∀ (ps : List Nat) (hs : List HV) (e : Env) (K : Env → Prop), zipEnvK ps hs e K = K (zipEnv ps hs e)
  | p :: ps, h :: hs, e, K => by simp only [zipEnvK, zipEnv]; exact zipEnvK_eq ps hs _ K
  | [], _, e, K => by simp [zipEnvK, zipEnv]
  | _ :: _, [], e, K => by simp [zipEnvK, zipEnv]
def allBlt (N : Nat) : List Nat → Bool
  | [] => true
  | p :: ps => Nat.blt p N && allBlt N ps

/-- The end of a round. -/
def roundEnd (o : Nat) (Kh : HV → Hp → Nat → Prop) (x : Exit) (hp : Hp) (nx : Nat) : Prop := match lk hp o with
  | some (.loop .busy) => match x with
    | .normal => Kh (.dat .bool (.B true)) ((o, .loop .ready) :: hp) nx
    | .ret => Kh (.dat .bool (.B false)) ((o, .loop (.done .ret)) :: hp) nx
    | .exit j => Kh (.dat .bool (.B false)) ((o, .loop (.done (.exit j))) :: hp) nx
    | .goto l => Kh (.dat .bool (.B false)) ((o, .loop (.done (.goto l))) :: hp) nx
    | _ => False
  | _ => False

/-- A round: the loop's variables are set, the body is run. -/
def roundK (vc : Nat → Code → Env → Hp → Nat → (Exit → Env → Hp → Nat → Prop) → Prop) (N : Nat) (e : Env) (o : Nat) (ps : List Nat) (assign body : Code) : YH := fun hs hp nx Kh =>
  match Nat.beq hs.length ps.length, lk hp o with
  | true, some (.loop .ready) => zipEnvK ps hs e fun e => vc N assign e hp nx fun x e' hp' nx' => match x with
    | .normal => match lk hp' o with
      | some (.loop .ready) => vc N body e' ((o, .loop .busy) :: hp') nx' fun x _ hp2 nx2 => roundEnd o Kh x hp2 nx2
      | _ => False
    | _ => False
  | _, _ => False

/-- Behind the function that was ranged over. -/
def loopEnd (o : Nat) (e : Env) (K : Exit → Env → Hp → Nat → Prop) (hp : Hp) (nx : Nat) : Prop := match lk hp o with
  | some (.loop .ready) => K .normal e ((o, .dead) :: hp) nx
  | some (.loop (.done .ret)) => K .ret e ((o, .dead) :: hp) nx
  | some (.loop (.done (.exit j))) => K (.exit j) e ((o, .dead) :: hp) nx
  | some (.loop (.done (.goto l))) => K (.goto l) e ((o, .dead) :: hp) nx
  | _ => False

def fEnv (e : Env) : (Env → Prop) → Prop :=
  @List.rec (Nat × HV) (fun _ => (Env → Prop) → Prop) (fun K => K []) (fun p _ ih K => match p with
    | (t, h) => fHV h fun h => ih fun e => K ((t, h) :: e)) e
theorem fEnv_eq : ∀ (e : Env) (K : Env → Prop), fEnv e K = K e
  | [], _ => rfl
  | (t, h) :: e, K => by show fHV h (fun h => fEnv e fun e => K ((t, h) :: e)) = _; rw [fHV_eq, fEnv_eq e]
def fHp (hp : Hp) : (Hp → Prop) → Prop :=
  @List.rec (Nat × VO) (fun _ => (Hp → Prop) → Prop) (fun K => K []) (fun u _ ih K => fU u fun u => ih fun hp => K (u :: hp)) hp
theorem fHp_eq : ∀ (hp : Hp) (K : Hp → Prop), fHp hp K = K hp
  | [], _ => rfl
  | u :: hp, K => by show fU u (fun u => fHp hp fun hp => K (u :: hp)) = _; rw [fU_eq, fHp_eq hp]

/-- A function that is walked into is called. -/
def hasInl (c : Ctx) (ops : List Oper) : Bool := @List.rec Oper (fun _ => Bool) false (fun o _ ih => (match o.op with
  | .call ⟨.value (.func n), _, _⟩ => (match lk c.funs n with
    | some _ => true
    | none => false)
  | _ => false) || ih) ops
/-- Behind a test the ways meet again, where the context asks for it (a flag at three millions and a thousand times the function's number of slots and the test's slot). -/
def joinAt (c : Ctx) (N t : Nat) : Bool := match lk c.maps (3000000 + 1000 * N + t) with
  | some (.flag b) => b
  | _ => false
def joinB (c : Ctx) (N : Nat) (a : Code) : Bool := match a with
  | .cond (.tmp t) _ _ => joinAt c N t
  | .seq _ (.cond (.tmp t) _ _) => joinAt c N t
  | _ => false
/-- One step of the evaluator: the condition under which code, from a state, ends as K asks. ys: the loops over functions that run; inR: whether the code is such a loop's body; ih: the evaluator for the parts. -/
def vcStep (c : Ctx) (ih : Ys → Bool → Nat → Code → Env → Hp → Nat → (Exit → Env → Hp → Nat → Prop) → Prop) (ys : Ys) (inR : Bool) (N : Nat) (code : Code) (e : Env) (hp : Hp) (nx : Nat) (K : Exit → Env → Hp → Nat → Prop) : Prop := match code with
    | .skip => K .normal e hp nx
    | .region _ ops draw => match draw with
      | false => vcOps c (into c ys (ih ys false)) N e ops.toList ops.toList [] hp nx fun re hp nx => mergeC c N re e fun e' => K .normal e' hp nx
      | true => match hasInl c ops.toList with
        | false => vcDrawF c N e hp nx ops.toList ops.toList 0 [] [] [] fun re rh => mergeC c N re e fun e' => mergeHK rh hp fun hp' => K .normal e' hp' (nx + 2 * ops.toList.length)
        | true => ordersOK c (into c ys (ih ys false)) N e ops.toList hp nx fun re hp' nx' => mergeC c N re e fun e' => K .normal e' hp' nx'
    | .seq a b => match joinB c N a with
      | true => ∃ (X : Type) (m : Nat) (mk : X → Env × Hp), (ih ys inR N a e hp nx fun ex e' hp' nx' => match ex with
          | .normal => ∃ x', covers nx ((mk x').1, (mk x').2, m) (e', hp', nx')
          | ex => K ex e' hp' nx') ∧ ∀ x, fEnv (mk x).1 fun e => fHp (mk x).2 fun hp => ih ys inR N b e hp m K
      | false => ih ys inR N a e hp nx fun x e hp nx => match x with
        | .normal => ih ys inR N b e hp nx K
        | x => K x e hp nx
    | .cond x a b => match rho e [] [] x with
      | .dat .bool d => (d.bool = true → ih ys inR N a e hp nx K) ∧ (d.bool = false → ih ys inR N b e hp nx K)
      | _ => False
    | .block id b => ih ys inR N b e hp nx fun x e hp nx => match x with
      | .exit j => match Nat.beq j id with
        | true => K .normal e hp nx
        | false => K (.exit j) e hp nx
      | x => K x e hp nx
    | .loop b => ∃ (X : Type) (m : Nat) (mk : X → Env × Hp) (μ : X → Nat) (x0 : X), covers nx ((mk x0).1, (mk x0).2, m) (e, hp, nx) ∧ ∀ x, fEnv (mk x).1 fun e => fHp (mk x).2 fun hp => ih ys inR N b e hp m fun ex e' hp' nx' => match ex with
      | .normal => ∃ x', covers nx ((mk x').1, (mk x').2, m) (e', hp', nx') ∧ μ x' < μ x
      | ex => K ex e' hp' nx'
    | .rangeFunc g ps assign body => match inR || !allBlt N ps.toList with
      | true => False
      | false => match rho e [] [] g with
        | .fn f caps => match Nat.ble bndN f with
          | true => False
          | false => into c ((nx, roundK (ih ys true) N e nx ps.toList assign body) :: ys) (ih ((nx, roundK (ih ys true) N e nx ps.toList assign body) :: ys) false) (.fn f) (.yld nx :: caps)
              ((nx, .loop .ready) :: hp) (nx + 1) fun _ hp' nx' => loopEnd nx e K hp' nx'
        | _ => False
    | .exit j => K (.exit j) e hp nx
    | .ret => K .ret e hp nx
    | .label _ => K .normal e hp nx
    | .goto l => K (.goto l) e hp nx
    | .scope b => match inR with
      | true => False
      | false => ∃ (l : Nat) (X : Type) (m : Nat) (mk : X → Env × Hp) (μ : X → Nat), (ih ys inR N b e hp nx fun ex e' hp' nx' => match ex with
          | .goto l' => l' = l ∧ ∃ x', covers nx ((mk x').1, (mk x').2, m) (e', hp', nx')
          | ex => K ex e' hp' nx') ∧ (match findLabel b l with
          | none => X → False
          | some rest => ∀ x, fEnv (mk x).1 fun e => fHp (mk x).2 fun hp => ih ys inR N rest e hp m fun ex e' hp' nx' => match ex with
            | .goto l' => l' = l ∧ ∃ x', covers nx ((mk x').1, (mk x').2, m) (e', hp', nx') ∧ μ x' < μ x
            | ex => K ex e' hp' nx')
    | _ => False

/-- The evaluator. -/
def vcCode (c : Ctx) (fu : Nat) : Ys → Bool → Nat → Code → Env → Hp → Nat → (Exit → Env → Hp → Nat → Prop) → Prop :=
  @Nat.rec (fun _ => Ys → Bool → Nat → Code → Env → Hp → Nat → (Exit → Env → Hp → Nat → Prop) → Prop) (fun _ _ _ _ _ _ _ _ => False) (fun _ ih => vcStep c ih) fu
theorem vcCode_succ (c : Ctx) (fu : Nat) : vcCode c (fu + 1) = vcStep c (vcCode c fu) := rfl

/-- A function, from its arguments. -/
def vcFun (c : Ctx) (fu : Nat) (F : Func) (hs : List HV) (hp : Hp) (nx : Nat) (K : HV → Hp → Nat → Prop) : Prop := intoFun c (vcCode c fu [] false) F hs hp nx K
end Go.Vm

noncomputable section
namespace Go.Vm
open Go
open Classical
set_option linter.unusedSimpArgs false

theorem lk_merge (e : Env) (t : Nat) : ∀ (re : REnv), lk (merge re e) t = match lk re t with
    | some ([], h) => some h
    | some (_ :: _, _) => some .und
    | none => lk e t
  | [] => rfl
  | (t0, [], h) :: re => by
    simp only [merge, lk_cons]
    split
    · rfl
    · exact lk_merge e t re
  | (t0, _ :: _, h) :: re => by
    simp only [merge, lk_cons]
    split
    · rfl
    · exact lk_merge e t re

theorem lk_mergeH (hp : Hp) (t : Nat) : ∀ (rh : RH), lk (mergeH rh hp) t = match lk rh t with
    | some ([], h) => some h
    | some (_ :: _, _) => some .dead
    | none => lk hp t
  | [] => rfl
  | (t0, [], h) :: re => by
    simp only [mergeH, lk_cons]
    split
    · rfl
    · exact lk_mergeH hp t re
  | (t0, _ :: _, h) :: re => by
    simp only [mergeH, lk_cons]
    split
    · rfl
    · exact lk_mergeH hp t re

section
variable {P : Program} {c : Ctx} {w0 : Base}

theorem merge_rel {B : MB} {g : Ghost} {loc : Loc} {N : Nat} {e : Env} {re : REnv} {a : Act} (F : FRel B g loc N e re a) : FRel B g loc N (merge re e) [] a where
  size := F.size
  defers := F.defers
  old := F.old
  base := by
    intro t h _ hl
    rw [lk_merge] at hl
    split at hl
    · rename_i h' hk
      simp only [Option.some.injEq] at hl; subst hl
      exact (F.reg t [] h' hk).1 fun x hx => by simp at hx
    · simp only [Option.some.injEq] at hl; subst hl; exact trivial
    · rename_i hk; exact F.base t h hk hl
  reg := fun t k h hl => by simp [lk] at hl
  keys := fun t k h hl => by simp [lk] at hl

theorem mergeC_rel {B : MB} {g : Ghost} {loc : Loc} {N : Nat} {e : Env} {re : REnv} {a : Act} {c : Ctx} {K : Env → Prop} (F : FRel B g loc N e re a) (h : mergeC c N re e K) : ∃ e', K e' ∧ FRel B g loc N e' [] a := by
  unfold mergeC at h
  split at h
  · rw [mergeK_eq] at h
    exact ⟨_, h, merge_rel F⟩
  · rename_i ks _
    rw [mergeP_eq] at h
    refine ⟨_, h, F.size, F.defers, F.old, fun t h _ hl => ?_, fun t k h hl => by simp [lk] at hl, fun t k h hl => by simp [lk] at hl⟩
    rcases mergeP_lk hl with rfl | h1 | ⟨h1, h2⟩
    · exact trivial
    · exact (F.reg t [] h h1).1 fun x hx => by simp at hx
    · exact F.base t h h1 h2

/-- Some objects less. -/
theorem HeapRel.sub {w : World} {hp hp' : Hp} {g : Ghost} {loc : Loc} (hs : ∀ o vo, lk hp' o = some vo → vo = .dead ∨ lk hp o = some vo) (H : HeapRel w0 hp g loc w) : HeapRel w0 hp' g loc w where
  obj := by
    intro o vo h
    rcases hs o vo h with rfl | h
    · exact trivial
    · exact H.obj o vo h
  inj := by
    intro o o' vo vo' b x x' h h' l l' e1 e2 b1 b2
    rcases hs o vo h with rfl | h
    · simp [VO.live] at l
    · rcases hs o' vo' h' with rfl | h'
      · simp [VO.live] at l'
      · exact H.inj o o' vo vo' b x x' h h' l l' e1 e2 b1 b2
  ghost := H.ghost
  sep := by
    intro o vo b x h l
    rcases hs o vo h with rfl | h
    · simp [VO.live] at l
    · exact H.sep o vo b x h l
  low := by
    intro o vo b x h l
    rcases hs o vo h with rfl | h
    · simp [VO.live] at l
    · exact H.low o vo b x h l
  ext := H.ext
  size := H.size
  old := H.old
  still := H.still

theorem mergeH_rel {w : World} {tmps : Array Value} {rh : RH} {hp : Hp} {g : Ghost} {loc : Loc} (H : HeapRel w0 (hAt tmps rh hp) g loc w) : HeapRel w0 (mergeH rh hp) g loc w := by
  refine H.sub fun o vo h => ?_
  rw [lk_mergeH] at h
  split at h
  · rename_i vo' hk
    simp only [Option.some.injEq] at h; subst h
    exact .inr (lk_hAt_some hk fun x hx => by simp at hx)
  · simp only [Option.some.injEq] at h; exact .inl h.symm
  · rename_i hk; exact .inr (by rw [lk_hAt_none hk]; exact h)

/-! ### Renaming -/
theorem nat_blt {a b : Nat} (h : Nat.blt a b = true) : a < b := blt_lt h
theorem ren_agg {ρ : List (Nat × Nat)} {h : HV} : (Vm.ren ρ h).agg = h.agg := by
  cases h with
  | own o s => simp only [Vm.ren, ownR]; split <;> simp [HV.agg]
  | _ => simp [Vm.ren, HV.agg]
mutual
theorem HC.ren {g : Ghost} {loc loc' : Loc} {n : Nat} {ρ : List (Nat × Nat)} (hl : ∀ o, o < n → (∀ x, loc (renId ρ o) = some x → loc' o = some x) ∧ (Nat.ble 1000000 (renId ρ o) = true → loc' o = some .nil)) : ∀ {h : HV} {us : List Value}, idsLt n h = true → HC g loc (Vm.ren ρ h) us → HC g loc' h us
  | .dat s d, us, _, h => by simp only [Vm.ren, HC] at h ⊢; exact h
  | .ptr o r p s, us, hi, h => by
    simp only [Vm.ren, HC] at h ⊢
    obtain ⟨b, cap, len, off, h1, h2⟩ := h
    exact ⟨b, cap, len, off, (hl _ (nat_blt hi)).1 _ h1, h2⟩
  | .own o s, us, hi, h => by
    simp only [Vm.ren, ownR] at h
    split at h
    · rename_i hb
      simp only [HC] at h ⊢
      exact .inl ⟨(hl _ (nat_blt hi)).2 hb, none, h.1⟩
    · simp only [HC] at h ⊢
      rcases h with ⟨h1, h2⟩ | ⟨b, cap, len, h1, h2⟩
      · exact .inl ⟨(hl _ (nat_blt hi)).1 _ h1, h2⟩
      · exact .inr ⟨b, cap, len, (hl _ (nat_blt hi)).1 _ h1, h2⟩
  | .sub o s i j, us, hi, h => by
    simp only [Vm.ren, HC] at h ⊢
    rcases h with ⟨h1, h2⟩ | ⟨b, cap, len, h1, h2⟩
    · exact .inl ⟨(hl _ (nat_blt hi)).1 _ h1, h2⟩
    · exact .inr ⟨b, cap, len, (hl _ (nat_blt hi)).1 _ h1, h2⟩
  | .gptr s d, us, _, h => by simp only [Vm.ren, HC] at h ⊢; exact h
  | .fn f cs, us, hi, h => by
    simp only [Vm.ren, HC] at h ⊢
    obtain ⟨vs, h1, h2⟩ := h
    exact ⟨vs, HVs.ren hl (by simpa [idsLt] using hi) h1, h2⟩
  | .st ss fs, us, hi, h => by simp only [Vm.ren, HC] at h ⊢; exact HCs.ren hl (by simpa [idsLt] using hi) h
  | .tup l, us, _, h => by simp only [Vm.ren, HC] at h
  | .cst v, us, _, h => by simp only [Vm.ren, HC] at h ⊢; exact h
  | .yld o, us, hi, h => by
    simp only [Vm.ren, HC] at h ⊢
    obtain ⟨b, r, h1, h2⟩ := h
    exact ⟨b, r, (hl _ (nat_blt hi)).1 _ h1, h2⟩
  | .mp o _ _, us, hi, h => by
    simp only [Vm.ren, HC] at h ⊢
    obtain ⟨b, h1, h2⟩ := h
    exact ⟨b, (hl _ (nat_blt hi)).1 _ h1, h2⟩
  | .mit o, us, hi, h => by
    simp only [Vm.ren, HC] at h ⊢
    obtain ⟨b, h1, h2⟩ := h
    exact ⟨b, (hl _ (nat_blt hi)).1 _ h1, h2⟩
  | .und, us, _, h => by simp only [Vm.ren, HC] at h
theorem HCs.ren {g : Ghost} {loc loc' : Loc} {n : Nat} {ρ : List (Nat × Nat)} (hl : ∀ o, o < n → (∀ x, loc (renId ρ o) = some x → loc' o = some x) ∧ (Nat.ble 1000000 (renId ρ o) = true → loc' o = some .nil)) : ∀ {ss : List Sh} {fs : List HV} {us : List Value}, idssLt n fs = true → HCs g loc ss (rens ρ fs) us → HCs g loc' ss fs us
  | [], [], us, _, h => by simp only [rens, HCs] at h ⊢; exact h
  | s :: ss, f :: fs, us, hi, h => by
    simp only [idssLt, Bool.and_eq_true] at hi
    simp only [rens, HCs] at h ⊢
    exact ⟨h.1, HC.ren hl hi.1 h.2.1, HCs.ren hl hi.2 h.2.2⟩
  | [], _ :: _, _, _, h => by simp [rens, HCs] at h
  | _ :: _, [], _, _, h => by simp [rens, HCs] at h
theorem HVs.ren {g : Ghost} {loc loc' : Loc} {n : Nat} {ρ : List (Nat × Nat)} (hl : ∀ o, o < n → (∀ x, loc (renId ρ o) = some x → loc' o = some x) ∧ (Nat.ble 1000000 (renId ρ o) = true → loc' o = some .nil)) : ∀ {hs : List HV} {vs : List Value}, idssLt n hs = true → HVs g loc (rens ρ hs) vs → HVs g loc' hs vs
  | [], [], _, _ => by simp only [HVs]
  | h :: hs, v :: vs, hi, k => by
    simp only [idssLt, Bool.and_eq_true] at hi
    simp only [rens, HVs] at k ⊢
    obtain ⟨⟨us, h1, h2⟩, h3⟩ := k
    have e : (Vm.ren ρ h).agg = h.agg := ren_agg
    exact ⟨⟨us, HC.ren hl hi.1 h1, by rw [← e]; exact h2⟩, HVs.ren hl hi.2 h3⟩
  | [], _ :: _, _, h => by simp [rens, HVs] at h
  | _ :: _, [], _, h => by simp [rens, HVs] at h
end

theorem HRel.ren {g : Ghost} {loc loc' : Loc} {n : Nat} {ρ : List (Nat × Nat)} (hl : ∀ o, o < n → (∀ x, loc (renId ρ o) = some x → loc' o = some x) ∧ (Nat.ble 1000000 (renId ρ o) = true → loc' o = some .nil)) {h : HV} {v : Value} (hi : idsLt n h = true) (hr : HRel g loc (Vm.ren ρ h) v) : HRel g loc' h v := by
  have e : (Vm.ren ρ h).agg = h.agg := ren_agg
  cases h with
  | und => exact trivial
  | tup l =>
    simp only [Vm.ren] at hr
    obtain ⟨vs, h1, h2⟩ := hr
    exact ⟨vs, HVs.ren hl (by simpa [idsLt] using hi) h1, h2⟩
  | dat s d => obtain ⟨us, h1, h2⟩ := hr; exact ⟨us, HC.ren hl hi h1, by rw [← e]; exact h2⟩
  | ptr o r p s => obtain ⟨us, h1, h2⟩ := hr; exact ⟨us, HC.ren hl hi h1, by rw [← e]; exact h2⟩
  | own o s =>
    have hr' : ∃ us, HC g loc (Vm.ren ρ (.own o s)) us ∧ v = mkV (Vm.ren ρ (.own o s)).agg us := by
      simp only [Vm.ren, ownR] at hr ⊢
      cases hb : Nat.ble 1000000 (renId ρ o) <;> (rw [hb] at hr; exact hr)
    obtain ⟨us, h1, h2⟩ := hr'
    exact ⟨us, HC.ren hl hi h1, by rw [← e]; exact h2⟩
  | gptr s d => obtain ⟨us, h1, h2⟩ := hr; exact ⟨us, HC.ren hl hi h1, by rw [← e]; exact h2⟩
  | sub o s i j => obtain ⟨us, h1, h2⟩ := hr; exact ⟨us, HC.ren hl hi h1, by rw [← e]; exact h2⟩
  | fn f cs => obtain ⟨us, h1, h2⟩ := hr; exact ⟨us, HC.ren hl hi h1, by rw [← e]; exact h2⟩
  | st ss fs => obtain ⟨us, h1, h2⟩ := hr; exact ⟨us, HC.ren hl hi h1, by rw [← e]; exact h2⟩
  | cst v => obtain ⟨us, h1, h2⟩ := hr; exact ⟨us, HC.ren hl hi h1, by rw [← e]; exact h2⟩
  | yld o => obtain ⟨us, h1, h2⟩ := hr; exact ⟨us, HC.ren hl hi h1, by rw [← e]; exact h2⟩
  | mp o ks vs => obtain ⟨us, h1, h2⟩ := hr; exact ⟨us, HC.ren hl hi h1, by rw [← e]; exact h2⟩
  | mit o => obtain ⟨us, h1, h2⟩ := hr; exact ⟨us, HC.ren hl hi h1, by rw [← e]; exact h2⟩

theorem envLt_lk {n : Nat} : ∀ {A : Env}, envLt n A = true → ∀ t h, lk A t = some h → idsLt n h = true
  | [], _, t, h, hl => by simp [lk] at hl
  | (k, v) :: A, he, t, h, hl => by
    simp only [envLt, Bool.and_eq_true] at he
    rw [lk_cons] at hl
    split at hl
    · simp only [Option.some.injEq] at hl; subst hl; exact he.1
    · exact envLt_lk he.2 t h hl
theorem hpLt_lk {n : Nat} : ∀ {A : Hp}, hpLt n A = true → ∀ o vo, lk A o = some vo → o < n ∧ (∀ s v, vo = .box s v → idsLt n v = true) ∧ (∀ om a b l, vo = .iter om a b l → om < n) ∧ ∀ fs, vo = .vec fs → idssLt n fs = true
  | [], _, t, h, hl => by simp [lk] at hl
  | (k, v) :: A, he, t, h, hl => by
    have h1 : k < n ∧ ((∀ s u, v = .box s u → idsLt n u = true) ∧ (∀ om a b l, v = .iter om a b l → om < n) ∧ ∀ fs, v = .vec fs → idssLt n fs = true) ∧ hpLt n A = true := by
      cases v <;> simp only [hpLt, Bool.and_eq_true] at he
      case box => exact ⟨nat_blt he.1, ⟨(fun s u e => by simp only [VO.box.injEq] at e; rw [← e.2]; exact he.2.1), (fun _ _ _ _ e => by cases e), (fun _ e => by cases e)⟩, he.2.2⟩
      case iter => exact ⟨nat_blt he.1, ⟨(fun s u e => by cases e), (fun _ _ _ _ e => by simp only [VO.iter.injEq] at e; rw [← e.1]; exact nat_blt he.2.1), (fun _ e => by cases e)⟩, he.2.2⟩
      case vec => exact ⟨nat_blt he.1, ⟨(fun s u e => by cases e), (fun _ _ _ _ e => by cases e), (fun _ e => by simp only [VO.vec.injEq] at e; rw [← e]; exact he.2.1)⟩, he.2.2⟩
      all_goals exact ⟨nat_blt he.1, ⟨(fun s u e => by cases e), (fun _ _ _ _ e => by cases e), (fun _ e => by cases e)⟩, he.2⟩
    rw [lk_cons] at hl
    split at hl
    · rename_i e; subst e; simp only [Option.some.injEq] at hl; subst hl; exact ⟨h1.1, h1.2.1⟩
    · exact hpLt_lk h1.2.2 t h hl
mutual
theorem fits_ren {ρ : List (Nat × Nat)} : ∀ (s : Sh) (h : HV), fits s (Vm.ren ρ h) = fits s h
  | s, .st ss fs => by
    cases s <;> simp only [Vm.ren, fits]
    rw [fitss_ren]
  | s, .dat _ _ => by cases s <;> simp [Vm.ren, fits]
  | s, .ptr .. => by cases s <;> simp [Vm.ren, fits]
  | s, .own .. => by
    simp only [Vm.ren, ownR]
    split <;> cases s <;> first | rfl | simp [fits]
  | s, .gptr .. => by cases s <;> simp [Vm.ren, fits]
  | s, .sub .. => by cases s <;> simp [Vm.ren, fits]
  | s, .fn .. => by cases s <;> simp [Vm.ren, fits]
  | s, .tup .. => by cases s <;> simp [Vm.ren, fits]
  | s, .cst .. => by cases s <;> simp [Vm.ren, fits]
  | s, .yld .. => by cases s <;> simp [Vm.ren, fits]
  | s, .mp .. => by cases s <;> simp [Vm.ren, fits]
  | s, .mit .. => by cases s <;> simp [Vm.ren, fits]
  | s, .und => by cases s <;> simp [Vm.ren, fits]
theorem fitss_ren {ρ : List (Nat × Nat)} : ∀ (ss : List Sh) (fs : List HV), fitss ss (rens ρ fs) = fitss ss fs
  | [], [] => by simp [rens, fitss]
  | [], _ :: _ => by simp [rens, fitss]
  | _ :: _, [] => by simp [rens, fitss]
  | s :: ss, f :: fs => by simp only [rens, fitss]; rw [fits_ren s f, fitss_ren ss fs]
end

theorem keysGe_lk {n : Nat} : ∀ {ρ : List (Nat × Nat)}, keysGe n ρ = true → ∀ o, o < n → renId ρ o = o
  | [], _, o, _ => rfl
  | (k, v) :: ρ, h, o, ho => by
    simp only [keysGe, Bool.and_eq_true] at h
    have hk := Nat.le_of_ble_eq_true h.1
    have ih := keysGe_lk h.2 o ho
    unfold renId at ih ⊢
    rw [lk_cons, if_neg (by omega)]
    exact ih

theorem imgsNew_inj {ρ : List (Nat × Nat)} : ∀ {hs : Hp} {l : List Nat}, imgsNew ρ hs l = true → (∀ o vo, (o, vo) ∈ hs → renId ρ o ∉ l) ∧ ∀ o vo o' vo', (o, vo) ∈ hs → (o', vo') ∈ hs → renId ρ o = renId ρ o' → o = o' ∧ vo = vo'
  | [], l, _ => ⟨fun o vo h => by simp at h, fun o vo o' vo' h => by simp at h⟩
  | (k, v) :: hs, l, h => by
    simp only [imgsNew, Bool.and_eq_true, Bool.not_eq_true'] at h
    obtain ⟨i1, i2⟩ := imgsNew_inj h.2
    have hk : renId ρ k ∉ l := fun hm => by rw [memN_iff.2 hm] at h; simp at h
    constructor
    · intro o vo hm
      rcases List.mem_cons.1 hm with e | hm
      · simp only [Prod.mk.injEq] at e; rw [e.1]; exact hk
      · exact fun h9 => i1 o vo hm (List.mem_cons_of_mem _ h9)
    · intro o vo o' vo' h1 h2 he
      rcases List.mem_cons.1 h1 with e1 | h1 <;> rcases List.mem_cons.1 h2 with e2 | h2
      · simp only [Prod.mk.injEq] at e1 e2; rw [e1.1, e2.1, e1.2, e2.2]; exact ⟨rfl, rfl⟩
      · simp only [Prod.mk.injEq] at e1; rw [e1.1] at he
        exact absurd (by rw [← he]; simp) (i1 o' vo' h2)
      · simp only [Prod.mk.injEq] at e2; rw [e2.1] at he
        exact absurd (by rw [he]; simp) (i1 o vo h1)
      · exact i2 o vo o' vo' h1 h2 he

theorem envEq_lk {ρ : List (Nat × Nat)} {B : Env} : ∀ {A : Env}, envEq ρ B A → ∀ t h, lk A t = some h → lk B t = some (Vm.ren ρ h)
  | [], _, t, h, hl => by simp [lk] at hl
  | (k, v) :: A, he, t, h, hl => by
    simp only [envEq] at he
    rw [lk_cons] at hl
    split at hl
    · rename_i e; subst e; simp only [Option.some.injEq] at hl; subst hl; exact he.1
    · exact envEq_lk he.2 t h hl
theorem hpEq_lk {ρ : List (Nat × Nat)} {B : Hp} : ∀ {A : Hp}, hpEq ρ B A → ∀ t h, lk A t = some h → hpAt ρ B t h = some (renVO ρ h)
  | [], _, t, h, hl => by simp [lk] at hl
  | (k, v) :: A, he, t, h, hl => by
    simp only [hpEq] at he
    rw [lk_cons] at hl
    split at hl
    · rename_i e; subst e; simp only [Option.some.injEq] at hl; subst hl; exact he.1
    · exact hpEq_lk he.2 t h hl

theorem rens_len {ρ : List (Nat × Nat)} : ∀ fs : List HV, (rens ρ fs).length = fs.length
  | [] => rfl
  | _ :: fs => by simp only [rens, List.length_cons, rens_len fs]
def isFroz : VO → Bool
  | .froz _ _ => true
  | _ => false
theorem frozen_idem (x : Option VO) : frozen (frozen x) = frozen x := by
  cases x with
  | none => rfl
  | some vo => cases vo <;> rfl
theorem freezeAll {w : World} {hp : Hp} {g : Ghost} {loc : Loc} (H : HeapRel w0 hp g loc w) : ∀ l : List Nat, ∃ G hp', HeapRel w0 hp' G loc w ∧ g.le G ∧ ∀ k, (k ∉ l → lk hp' k = lk hp k) ∧ (k ∈ l → lk hp' k = frozen (lk hp k))
  | [] => ⟨g, hp, H, Ghost.le_refl g, fun k => ⟨fun _ => rfl, fun h => by simp at h⟩⟩
  | k0 :: l => by
    obtain ⟨G, hp', H', hg, hk⟩ := freezeAll H l
    by_cases hm : k0 ∈ l
    · refine ⟨G, hp', H', hg, fun k => ⟨fun h => (hk k).1 fun h2 => h (by simp [h2]), fun h => ?_⟩⟩
      rcases List.mem_cons.1 h with rfl | h
      · exact (hk _).2 hm
      · exact (hk _).2 h
    · have h0 := (hk k0).1 hm
      cases hc : lk hp k0 with
      | none =>
        refine ⟨G, hp', H', hg, fun k => ⟨fun h => (hk k).1 fun h2 => h (by simp [h2]), fun h => ?_⟩⟩
        rcases List.mem_cons.1 h with rfl | h
        · rw [h0, hc]; rfl
        · exact (hk _).2 h
      | some vo =>
        cases vo with
        | grow s xs =>
          rw [hc] at h0
          obtain ⟨H2, m1, _⟩ := H'.freeze h0
          refine ⟨_, _, H2, Ghost.le_trans hg m1, fun k => ⟨fun h => ?_, fun h => ?_⟩⟩
          · rw [lk_cons, if_neg fun e => h (by simp [e])]
            exact (hk k).1 fun h2 => h (by simp [h2])
          · rw [lk_cons]
            split
            · rename_i e; subst e; rw [hc]; rfl
            · rename_i e
              rcases List.mem_cons.1 h with rfl | h
              · exact absurd rfl e
              · exact (hk _).2 h
        | _ =>
          refine ⟨G, hp', H', hg, fun k => ⟨fun h => (hk k).1 fun h2 => h (by simp [h2]), fun h => ?_⟩⟩
          rcases List.mem_cons.1 h with rfl | h
          · rw [h0, hc]; rfl
          · exact (hk _).2 h

/-- Some names are forgotten, some are read anew. -/
theorem covers_rel {mk : MB} {n0 N : Nat} {A B : ST} (hc : covers n0 A B) {g : Ghost} {loc : Loc} {a : Act} {w : World} (F : FRel mk g loc N B.1 [] a) (H : HeapN w0 B.2.1 B.2.2 g loc w) :
    ∃ g' loc', g.le g' ∧ (∀ o, o < n0 → loc' o = loc o) ∧ FRel mk g' loc' N A.1 [] a ∧ HeapN w0 A.2.1 A.2.2 g' loc' w := by
  obtain ⟨ρ, hb, he, hh⟩ := hc
  simp only [Bool.and_eq_true] at hb
  obtain ⟨⟨⟨⟨⟨⟨hn, hk⟩, hi⟩, hel⟩, hhl⟩, hbig⟩, hbigA⟩ := hb
  have hbig' := Nat.le_of_ble_eq_true hbig
  have hbigA' := Nat.le_of_ble_eq_true hbigA
  have hn' := Nat.le_of_ble_eq_true hn
  obtain ⟨_, hinj⟩ := imgsNew_inj hi
  let loc' : Loc := fun o => if o < A.2.2 then (if Nat.ble 1000000 (renId ρ o) = true then some .nil else loc (renId ρ o)) else none
  have hl0 : ∀ o, o < A.2.2 → Nat.ble 1000000 (renId ρ o) = false → loc' o = loc (renId ρ o) := fun o ho h => by show (if o < A.2.2 then (if Nat.ble 1000000 (renId ρ o) = true then some .nil else loc (renId ρ o)) else none) = _; rw [if_pos ho, if_neg (by rw [h]; exact Bool.false_ne_true)]
  have hnone : ∀ o, Nat.ble 1000000 (renId ρ o) = true → loc (renId ρ o) = none := fun o h => H.2 _ (Nat.le_trans hbig' (Nat.le_of_ble_eq_true h))
  have hnil : ∀ o, o < A.2.2 → Nat.ble 1000000 (renId ρ o) = true → loc' o = some .nil := fun o ho h => by show (if o < A.2.2 then (if Nat.ble 1000000 (renId ρ o) = true then some .nil else loc (renId ρ o)) else none) = _; rw [if_pos ho, if_pos h]
  have hl : ∀ o, o < A.2.2 → ∀ x, loc (renId ρ o) = some x → loc' o = some x := fun o ho x hx => by
    rw [hl0 o ho (by cases hb : Nat.ble 1000000 (renId ρ o) with | false => rfl | true => rw [hnone o hb] at hx; cases hx)]; exact hx
  have hl' : ∀ o, o < A.2.2 → (∀ x, loc (renId ρ o) = some x → loc' o = some x) ∧ (Nat.ble 1000000 (renId ρ o) = true → loc' o = some .nil) := fun o ho => ⟨hl o ho, hnil o ho⟩
  have hback : ∀ o, o < A.2.2 → ∀ x b, loc' o = some x → x.blk = some b → loc (renId ρ o) = some x ∧ Nat.ble 1000000 (renId ρ o) = false := fun o ho x b hx hb => by
    cases h : Nat.ble 1000000 (renId ρ o) with
    | true => rw [hnil o ho h] at hx; simp only [Option.some.injEq] at hx; subst hx; simp [Place.blk] at hb
    | false => rw [hl0 o ho h] at hx; exact ⟨hx, rfl⟩
  obtain ⟨G, hpB, HB, hgG, hfz⟩ := freezeAll H.1 ((A.2.1.filter fun p => isFroz p.2).map fun p => renId ρ p.1)
  have hget : ∀ {o vo}, lk A.2.1 o = some vo → Nat.ble 1000000 (renId ρ o) = false → lk hpB (renId ρ o) = some (renVO ρ vo) := fun {o vo} h1 h2 => by
    have h3 := hpEq_lk hh _ _ h1
    unfold hpAt at h3
    rw [h2] at h3
    by_cases hf : isFroz vo = true
    · have hm : renId ρ o ∈ (A.2.1.filter fun p => isFroz p.2).map fun p => renId ρ p.1 := List.mem_map.2 ⟨(o, vo), List.mem_filter.2 ⟨lk_mem h1, hf⟩, rfl⟩
      rw [(hfz _).2 hm]
      cases vo <;> simp [isFroz] at hf
      exact h3
    · have hm : renId ρ o ∉ (A.2.1.filter fun p => isFroz p.2).map fun p => renId ρ p.1 := by
        intro hm
        obtain ⟨⟨o', vo'⟩, m1, m2⟩ := List.mem_map.1 hm
        obtain ⟨m3, m4⟩ := List.mem_filter.1 m1
        obtain ⟨_, rfl⟩ := hinj o' vo' o vo m3 (lk_mem h1) m2
        exact hf m4
      rw [(hfz _).1 hm]
      cases vo <;> first | exact h3 | simp [isFroz] at hf
  have hlive : ∀ {o vo} x b, lk A.2.1 o = some vo → vo.live = true → loc' o = some x → x.blk = some b → lk hpB (renId ρ o) = some (renVO ρ vo) ∧ (renVO ρ vo).live = true ∧ loc (renId ρ o) = some x := fun {o vo} x b h1 h2 h3 h4 => by
    obtain ⟨k1, k2⟩ := hback o (hpLt_lk hhl _ _ h1).1 x b h3 h4
    exact ⟨hget h1 k2, by cases vo <;> simp_all [renVO, VO.live], k1⟩
  have FG := F.mono hgG (Loc.le_refl loc)
  refine ⟨G, loc', hgG, fun o ho => ?_, ⟨FG.size, FG.defers, FG.old, ?_, fun t k h hl => by simp [lk] at hl, fun t k h hl => by simp [lk] at hl⟩, ⟨?_, ?_, HB.ghost, ?_, ?_, HB.ext, HB.size, HB.old, HB.still⟩, fun o ho => by simp [loc', Nat.not_lt.2 ho]⟩
  · have h1 := keysGe_lk hk o ho
    rw [hl0 o (Nat.lt_of_lt_of_le ho hn') (by
      rw [h1]
      cases h : Nat.ble 1000000 o with
      | false => rfl
      | true => have := Nat.le_of_ble_eq_true h; omega), h1]
  · intro t h h1 h2
    exact HRel.ren hl' (envLt_lk hel t h h2) (FG.base t _ rfl (envEq_lk he t h h2))
  · intro o vo h1
    obtain ⟨ho, hid, hid2, hid3⟩ := hpLt_lk hhl _ _ h1
    cases hb : Nat.ble 1000000 (renId ρ o) with
    | true =>
      have h3 := hpEq_lk hh _ _ h1
      unfold hpAt at h3
      rw [hb] at h3
      cases vo with
      | grow s xs =>
        simp only [nilVO, renVO, Option.some.injEq, VO.grow.injEq, true_and] at h3
        exact .inl ⟨hnil o ho hb, h3.symm⟩
      | _ => simp [nilVO] at h3
    | false =>
    have h2 := HB.obj _ _ (hget h1 hb)
    cases vo with
    | box s v =>
      simp only [renVO] at h2
      obtain ⟨b, cap, len, T, vs, k1, k2, k3, k4, k5⟩ := h2
      exact ⟨b, cap, len, T, vs, hl _ ho _ k1, k2, k3, ⟨by rw [← fits_ren]; exact k4.1, k4.2⟩, HC.ren hl' (hid _ _ rfl) k5⟩
    | grow s xs =>
      simp only [renVO] at h2
      rcases h2 with ⟨k1, k2⟩ | ⟨b, cap, T, cs, k1, k2⟩
      · exact .inl ⟨hl _ ho _ k1, k2⟩
      · exact .inr ⟨b, cap, T, cs, hl _ ho _ k1, k2⟩
    | loop st =>
      simp only [renVO] at h2
      obtain ⟨b, r, k1, k2⟩ := h2
      exact ⟨b, r, hl _ ho _ k1, k2⟩
    | map ks vs es =>
      simp only [renVO] at h2
      obtain ⟨b, arr, k1, k2⟩ := h2
      exact ⟨b, arr, hl _ ho _ k1, k2⟩
    | iter om since last seen =>
      simp only [renVO] at h2
      obtain ⟨b, bm, k1, k2, k3⟩ := h2
      exact ⟨b, bm, hl _ ho _ k1, hl _ (hid2 _ _ _ _ rfl) _ k2, k3⟩
    | vec fs =>
      simp only [renVO] at h2
      obtain ⟨b, T, vs, k1, k2, k3⟩ := h2
      have el : ∀ fs : List HV, (rens ρ fs).length = fs.length := rens_len
      rw [el] at k1 k3
      exact ⟨b, T, vs, hl _ ho _ k1, k2, HCs.ren hl' (hid3 _ rfl) k3⟩
    | froz s xs =>
      simp only [renVO] at h2
      rcases h2 with ⟨k1, k2⟩ | ⟨b, cap, T, cs, k1, k2⟩
      · exact .inl ⟨hl _ ho _ k1, k2⟩
      · exact .inr ⟨b, cap, T, cs, hl _ ho _ k1, k2⟩
    | dead => exact trivial
  · intro o o' vo vo' b x x' h1 h2 l1 l2 e1 e2 b1 b2
    obtain ⟨m1, m2, m3⟩ := hlive x b h1 l1 e1 b1
    obtain ⟨n1, n2, n3⟩ := hlive x' b h2 l2 e2 b2
    exact (hinj o vo o' vo' (lk_mem h1) (lk_mem h2) (HB.inj _ _ _ _ b x x' m1 n1 m2 n2 m3 n3 b1 b2)).1
  · intro o vo b x h1 l1 e1 b1
    obtain ⟨m1, m2, m3⟩ := hlive x b h1 l1 e1 b1
    exact HB.sep _ _ b x m1 m2 m3 b1
  · intro o vo b x h1 l1 e1 b1
    obtain ⟨m1, m2, m3⟩ := hlive x b h1 l1 e1 b1
    exact HB.low _ _ b x m1 m2 m3 b1
end
end Go.Vm
