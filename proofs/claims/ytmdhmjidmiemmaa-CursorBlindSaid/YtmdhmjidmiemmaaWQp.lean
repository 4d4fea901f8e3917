/- Cursors in plain Lean: older stores, what a cursor of one means in a younger. -/
import Derived.Test.YtmdhmjidmiemmaaWQo
namespace Go.Proofs.Ytmdhmjidmiemmaa
open Go Go.Vm Rg
set_option linter.unusedSimpArgs false
set_option linter.unusedVariables false
set_option maxRecDepth 10000
def nxR (s : D) (i : Nat) : Int := ((rgAt s i).nth 3).int
theorem ring_ok {s : D} (h : stE s = 0) {i : Nat} (hi : i < nG s) : 1 ≤ fiA s i ∧ fiA s i ≤ nxR s i ∧ nxR s i ≤ 1099511627777 ∧ (cap (rgAt s i) : Int) = nxR s i - fiA s i := by
  have hb := chk_bad ((st_ok h).1.2 i hi)
  have h1 := badR_false hb
  have h2 := cap_le hb
  exact ⟨h1.2.2.1, h1.2.2.2.1, h1.2.2.2.2.1, h2.2.1⟩
/-- One store is another's past. -/
structure OldS (y s : D) : Prop where
  st : stE y = 0
  nG : nG y = nG s
  lab : ∀ i, labG y i = labG s i
  nxt : ∀ i, i < Go.Proofs.Ytmdhmjidmiemmaa.nG s → nxR y i ≤ nxR s i
theorem OldS.rfl {s : D} (h : stE s = 0) : OldS s s := ⟨h, Eq.refl _, fun _ => Eq.refl _, fun _ _ => Int.le_refl _⟩
theorem OldS.trans {a b c : D} (h : OldS a b) (k : OldS b c) : OldS a c := ⟨h.st, h.nG.trans k.nG, fun i => (h.lab i).trans (k.lab i), fun i hi => Int.le_trans (h.nxt i (by rw [k.nG]; exact hi)) (k.nxt i hi)⟩
section
variable {s : D} (hs : 0 ≤ (s.nth 1).int ∧ 0 ≤ (s.nth 2).int ∧ 0 ≤ (s.nth 3).int) (h : stE s = 0) (hp : tickE s = 0)
include hs h hp
theorem ti_nxR {i : Nat} (hi : i < nG s) : nxR (tickT s) i = nxR s i ∧ fiA s i ≤ fiA (tickT s) i := by
  have e := ti_at hs h hp i hi
  have e1 := evR_0 (rgAt s i) (tickK s i)
  rw [nxR, e, tickRg, e1.2.2.1, fiA, fiA, e, tickRg, e1.2.2.2]
  exact ⟨Eq.refl _, by omega⟩
theorem old_tick : OldS s (tickT s) := ⟨h, (ti_nG hs h hp).symm, fun i => (ti_lab hs h hp i).symm, fun i hi => by
  rw [ti_nG hs h hp] at hi
  rw [(ti_nxR hs h hp hi).1]; exact Int.le_refl _⟩
end
section
variable {s e : D} (hs : 0 ≤ (s.nth 1).int ∧ 0 ≤ (s.nth 2).int ∧ 0 ≤ (s.nth 3).int) (h : stE s = 0) (hp : putTE s e = 0)
include hs h hp
theorem pu_nxR {i : Nat} (hi : i < nG s) : nxR s i ≤ nxR (putT s e) i ∧ fiA (putT s e) i = fiA s i := by
  have e1 := pu_at hs h hp i hi
  rw [nxR, nxR, fiA, fiA, e1]
  split
  · rename_i h1
    have h3 : (rgE s e) = rgAt s i := by rw [rgE, ← h1]
    rw [h3]
    have h4 : ((putD (rgAt s i) (newE s e)).nth 3).int = ((rgAt s i).nth 3).int + 1 := Eq.refl _
    have h5 : ((putD (rgAt s i) (newE s e)).nth 2) = (rgAt s i).nth 2 := Eq.refl _
    rw [h4, h5]
    exact ⟨by omega, Eq.refl _⟩
  · exact ⟨Int.le_refl _, Eq.refl _⟩
theorem old_put : OldS s (putT s e) := ⟨h, (pu_nG hs h hp).symm, fun i => (pu_lab hs h hp i).symm, fun i hi => by
  rw [pu_nG hs h hp] at hi
  exact (pu_nxR hs h hp hi).1⟩
end
structure InvQ (x : D × List D) : Prop where
  ok : stE x.1 = 0
  nn : 0 ≤ (x.1.nth 1).int ∧ 0 ≤ (x.1.nth 2).int ∧ 0 ≤ (x.1.nth 3).int
  all : ∀ y, y ∈ x.2 → OldS y x.1
  last : x.2.getLastD .Z = x.1
theorem inv_add {x : D × List D} {t : D} (I : InvQ x) (ho : OldS x.1 t) (ok : stE t = 0) (nn : 0 ≤ (t.nth 1).int ∧ 0 ≤ (t.nth 2).int ∧ 0 ≤ (t.nth 3).int) : InvQ (t, x.2 ++ [t]) := by
  refine ⟨ok, nn, fun y hy => ?_, by simp⟩
  rcases List.mem_append.1 hy with hy | hy
  · exact (I.all y hy).trans ho
  · rw [List.mem_singleton.1 hy]; exact OldS.rfl ok
theorem inv_mkQ {x : D × List D} (I : InvQ x) (k : Int) : InvQ (mkQ k x) := by
  have hn := I.nn
  unfold mkQ
  split
  · split
    · rename_i ht
      obtain ⟨h1, h2, h3, h4⟩ := ti_rgs I.nn I.ok ht
      have e3 : ((tickT x.1).nth 2).int = (x.1.nth 2).int + 1 := h3
      exact inv_add I (old_tick I.nn I.ok ht) (ti_right I.nn I.ok ht) ⟨by rw [h2]; exact hn.1, by rw [e3]; omega, by rw [h4]; exact hn.2.2⟩
    · exact I
  split
  · split
    · rename_i hp
      obtain ⟨h1, h2, h3, h4⟩ := pu_rgs I.nn I.ok hp
      have e2 : ((putT x.1 (evM k x.1)).nth 1).int = (x.1.nth 1).int + 1 := h2
      exact inv_add I (old_put I.nn I.ok hp) (pu_right I.nn I.ok hp) ⟨by rw [e2]; omega, by rw [h3]; exact hn.2.1, by rw [h4]; exact hn.2.2⟩
    · exact I
  · exact inv_add I (OldS.rfl I.ok) I.ok hn
theorem inv_mdQ {c : D} (h : Cf.chE c = 0) (n : List D) : ∀ i, InvQ (mdQ c n i)
  | 0 => by
    have I := inv_mdR h n (i := 0) (by omega)
    have e : (mdR c n 0).1 = newT c := Eq.refl _
    refine ⟨nt_right h, I.nn, fun y hy => ?_, Eq.refl _⟩
    rw [List.mem_singleton.1 hy]; exact OldS.rfl (nt_right h)
  | i + 1 => inv_mkQ (inv_mdQ h n i) _
/-- What a law leans on: the last store, and one of the others. -/
theorem made_inv (n : Int) (ns : List D) : ∃ x : D × List D, InvQ x ∧ mdL n ns = x.2 ∧ 1 ≤ (mdL n ns).length ∧ (mdL n ns).length ≤ 21 := by
  have hK := Cf.cfgK_range n
  have hc := Cf.cfg_right hK.1 hK.2
  have hl := mdQ_len (c := Cf.cfgD (Cf.cfgK n)) (n := ns) (i := min ns.length 20)
  exact ⟨_, inv_mdQ hc ns _, Eq.refl _, hl.1, by rw [mdL]; omega⟩
/-! ### A cursor of an older store -/
theorem newQ_nx {y : D} {l : Int} (h : stE y = 0) : cl (newQ y l) = l ∧ nx (newQ y l) = nwQ y l (nG y) (nG y) := by
  rw [← newQ_yes h]; exact ⟨Eq.refl _, Eq.refl _⟩
theorem newQ_nxA {y : D} {l : Int} (h : stE y = 0) {k : Nat} (hk : k < nG y) : nxA (newQ y l) k = if seeB y l k = true then nxR y k else 0 := by
  rw [nxA, (newQ_nx h).2, nwQ, upd_get hk]
  by_cases hb : seeB y l k = true
  · rw [if_pos ⟨hk, hb⟩, if_pos hb]; rfl
  · rw [if_neg (fun h => hb h.2), if_neg hb]; rfl
theorem ck_zero {s c : D} (h : CkOK s c) : ckE s c = 0 := by
  rw [ckE, if_neg (by simp [h.st]), if_neg (by simp [h.len]), anyQ_no h.b1, anyQ_no h.b2]; rfl
theorem seeB_old {y s : D} (o : OldS y s) (l : Int) (k : Nat) : seeB y l k = seeB s l k := by rw [seeB, seeB, o.lab]
/-- What it is to fit a store. -/
structure Fits (s c : D) : Prop where
  st : stE s = 0
  len : (nx c).length = nG s
  no : ∀ k, k < nG s → seeB s (cl c) k = false → nxA c k = 0
  yes : ∀ k, k < nG s → seeB s (cl c) k = true → 1 ≤ nxA c k ∧ nxA c k ≤ nxR s k
theorem Fits.ck {s c : D} (h : Fits s c) : ckE s c = 0 := by
  refine ck_zero ⟨h.st, h.len, fun k hk => ?_, fun k hk => ?_⟩
  · cases hb : seeB s (cl c) k with
    | true => rw [bad1, hb]; rfl
    | false => rw [bad1, hb, h.no k hk hb]; rfl
  · cases hb : seeB s (cl c) k with
    | false => rw [bad2, hb]; rfl
    | true =>
      have := h.yes k hk hb
      rw [bad2, hb, show ltB (nxA c k) 1 = false by rw [ltB_false]; omega, show ltB ((rgAt s k).nth 3).int (nxA c k) = false by rw [ltB_false]; exact this.2]; rfl
theorem fits_of {s c : D} (h : ckE s c = 0) : Fits s c := by
  have ok := ck_ok h
  refine ⟨ok.st, ok.len, fun k hk hb => ?_, fun k hk hb => ?_⟩
  · have := ok.b1 k hk
    rw [bad1, hb] at this
    simpa using this
  · have := ok.b2 k hk
    rw [bad2, hb, Bool.true_and, Bool.or_eq_false_iff, ltB_false, ltB_false] at this
    exact this
theorem fits_new {y s : D} (o : OldS y s) (h : stE s = 0) (l : Int) : Fits s (newQ y l) := by
  have hn := newQ_nx (l := l) o.st
  refine ⟨h, by rw [hn.2, nwQ, upd_len, o.nG], fun k hk hb => ?_, fun k hk hb => ?_⟩
  · rw [hn.1, ← seeB_old o] at hb
    rw [newQ_nxA o.st (by rw [o.nG]; exact hk), if_neg (by simp [hb])]
  · rw [hn.1, ← seeB_old o] at hb
    rw [newQ_nxA o.st (by rw [o.nG]; exact hk), if_pos hb]
    have h1 := ring_ok o.st (i := k) (by rw [o.nG]; exact hk)
    exact ⟨by omega, o.nxt k hk⟩
theorem Fits.old {y s c : D} (o : OldS y s) (h : stE s = 0) (f : Fits y c) : Fits s c := by
  refine ⟨h, by rw [f.len, o.nG], fun k hk hb => f.no k (by rw [o.nG]; exact hk) (by rw [seeB_old o]; exact hb), fun k hk hb => ?_⟩
  have := f.yes k (by rw [o.nG]; exact hk) (by rw [seeB_old o]; exact hb)
  have := o.nxt k hk
  omega
/-! ### How much waits, how much is lost -/
def loR (s c : D) (k : Nat) : Int := if lsB s c k = true then fiA s k - nxA c k else 0
def sumI (f : Nat → Int) : Nat → Int
  | 0 => 0
  | n + 1 => sumI f n + f n
theorem sumI_rng {f : Nat → Int} {B : Int} : ∀ {n : Nat}, (∀ k, k < n → 0 ≤ f k ∧ f k ≤ B) → 0 ≤ sumI f n ∧ sumI f n ≤ n * B
  | 0, _ => by simp [sumI]
  | n + 1, h => by
    have h1 := sumI_rng (n := n) fun k hk => h k (by omega)
    have h2 := h n (by omega)
    rw [sumI, Int.natCast_add, Int.add_mul]; omega
theorem sumI_le {f g : Nat → Int} : ∀ {n : Nat}, (∀ k, k < n → f k ≤ g k) → sumI f n ≤ sumI g n
  | 0, _ => Int.le_refl _
  | n + 1, h => by
    have h1 := sumI_le (n := n) fun k hk => h k (by omega)
    have h2 := h n (by omega)
    rw [sumI, sumI]; omega
theorem sumI_eq {f g : Nat → Int} {n : Nat} (h : ∀ k, k < n → f k = g k) : sumI f n = sumI g n :=
  Int.le_antisymm (sumI_le fun k hk => by rw [h k hk]; exact Int.le_refl _) (sumI_le fun k hk => by rw [h k hk]; exact Int.le_refl _)
theorem sumI_add (f g : Nat → Int) : ∀ n, sumI (fun k => f k + g k) n = sumI f n + sumI g n
  | 0 => rfl
  | n + 1 => by rw [sumI, sumI, sumI, sumI_add f g n]; omega
theorem loR_rng {s c : D} (f : Fits s c) {k : Nat} (hk : k < nG s) : 0 ≤ loR s c k ∧ loR s c k ≤ 1099511627777 := by
  have h1 := ring_ok f.st hk
  rw [loR]
  split
  · rename_i h
    rw [lsB, Bool.and_eq_true, ltB_true] at h
    have h2 := f.yes k hk h.1
    have h3 : nxA c k < fiA s k := h.2
    omega
  · omega
theorem lsT_sum {s c : D} (f : Fits s c) : ∀ {n : Nat}, n ≤ nG s → lsT s c n = sumI (loR s c) n
  | 0, _ => rfl
  | n + 1, hn => by
    have ih := lsT_sum f (n := n) (by omega)
    have h8 := (ck_ok f.ck).le8
    have h1 := sumI_rng (f := loR s c) (B := 1099511627777) (n := n) fun k hk => loR_rng f (by omega)
    have h2 := loR_rng f (k := n) (by omega)
    rw [lsT, sumI, ih]
    by_cases h : lsB s c n = true
    · rw [if_pos h]
      have e : lsA s c n = loR s c n := by
        rw [loR, if_pos h, lsA]
        rw [loR, if_pos h] at h2
        exact wrap_u64 h2.1 (by have := h2.2; unfold fiA at this; omega)
      rw [e]
      have : (n : Int) ≤ 8 := by omega
      have h4 : (n : Int) * 1099511627777 ≤ 8 * 1099511627777 := Int.mul_le_mul_of_nonneg_right this (by omega)
      exact wrap_u64 (by omega) (by omega)
    · rw [if_neg h, loR, if_neg h]; omega
theorem lsT_rng {s c : D} (f : Fits s c) : 0 ≤ lsT s c (nG s) ∧ lsT s c (nG s) ≤ 8796093022216 := by
  have h8 := (ck_ok f.ck).le8
  have h1 := sumI_rng (f := loR s c) (B := 1099511627777) (n := nG s) fun k hk => loR_rng f hk
  rw [lsT_sum f (Nat.le_refl _)]
  have : (nG s : Int) ≤ 8 := by omega
  have h4 : (nG s : Int) * 1099511627777 ≤ 8 * 1099511627777 := Int.mul_le_mul_of_nonneg_right this (by omega)
  omega
theorem wtF_length {s c : D} (f : Fits s c) {k : Nat} (hk : k < nG s) : ((wtF s c k).length : Int) + loR s c k = if seeB s (cl c) k = true then nxR s k - nxA c k else 0 := by
  have h1 := ring_ok f.st hk
  by_cases hb : seeB s (cl c) k = true
  · have h2 := f.yes k hk hb
    rw [if_pos hb, wtF, if_pos hb, frQ, if_neg (by simp [(st_ok f.st).1.2 k hk]), fromL, List.length_map, List.length_range, fromN, loR, lsB, hb, Bool.true_and, stI]
    change ((nxR s k - if fiA s k > nxA c k then fiA s k else nxA c k).toNat : Int) + (if ltB (nxA c k) (fiA s k) = true then fiA s k - nxA c k else 0) = _
    by_cases h3 : nxA c k < fiA s k
    · rw [if_pos h3, if_pos (by rw [ltB_true]; exact h3)]; omega
    · rw [if_neg h3, if_neg (by rw [ltB_true]; exact h3)]; omega
  · rw [if_neg hb, wtF, if_neg hb, loR, lsB, show seeB s (cl c) k = false by simpa using hb]; rfl
theorem wtU_length (s c : D) : ∀ n, ((wtU s c n).length : Int) = sumI (fun k => ((wtF s c k).length : Int)) n
  | 0 => rfl
  | n + 1 => by rw [wtU, List.length_append, sumI, ← wtU_length s c n]; omega
/-- What waits and what is lost, together, hang on the numbers that come next alone. -/
theorem both_sum {s c : D} (f : Fits s c) : ((wtR s c).length : Int) + lsT s c (nG s) = sumI (fun k => if seeB s (cl c) k = true then nxR s k - nxA c k else 0) (nG s) := by
  rw [(wtU_perm f.st).length_eq, wtU_length, lsT_sum f (Nat.le_refl _), ← sumI_add]
  exact sumI_eq fun k hk => wtF_length f hk
end Go.Proofs.Ytmdhmjidmiemmaa
