/- Maximal and minimal labels, chains and heights, in plain Lean. -/
import Derived.Test.YtohgdncglegjmaaWLj
namespace Go.Proofs.Ytohgdncglegjmaa
open Go Go.Vm
set_option linter.unusedSimpArgs false
set_option linter.unusedVariables false
set_option maxRecDepth 10000
theorem belowB_trans {a b c : Int} (h : belowB a b = true) (k : belowB b c = true) : belowB a c = true := by
  rw [belowB_iff] at *
  exact fun i hi h1 => k i hi (h i hi h1)
theorem lessI_below {a b : Int} (h : lessI a b = true) : belowB a b = true := by
  rw [lessI, Bool.and_eq_true] at h; exact h.2
theorem okN_false {bad : Int → Int → Bool} {l : List D} {i : Nat} (h : okN bad l i = false) : ∃ k, k < l.length ∧ bad (l.getD i .Z).int (l.getD k .Z).int = true := by
  rw [okN, List.all_eq_false] at h
  obtain ⟨k, hk, h⟩ := h
  exact ⟨k, by simpa using hk, by simpa using h⟩
theorem up_max {l : List D} (hU : ∀ y, y ∈ ints l → InU y) : ∀ (q i : Nat), i < l.length → 64 - pcI (l.getD i .Z).int < q → ∃ k, k < l.length ∧ okN lessI l k = true ∧ belowB (l.getD i .Z).int (l.getD k .Z).int = true := by
  intro q
  induction q with
  | zero => intro i _ hq; exact absurd hq (Nat.not_lt_zero _)
  | succ q ih =>
    intro i hi hq
    cases ho : okN lessI l i
    · obtain ⟨k, hk, h⟩ := okN_false ho
      have h1 := less_pc (hU _ (ints_mem hi)) (hU _ (ints_mem hk)) h
      have h2 := pcI_le (l.getD k .Z).int
      obtain ⟨m, hm, h3, h4⟩ := ih k hk (by omega)
      exact ⟨m, hm, h3, belowB_trans (lessI_below h) h4⟩
    · exact ⟨i, hi, ho, belowB_self _⟩
theorem down_min {l : List D} (hU : ∀ y, y ∈ ints l → InU y) : ∀ (q i : Nat), i < l.length → pcI (l.getD i .Z).int < q → ∃ k, k < l.length ∧ okN lessR l k = true ∧ belowB (l.getD k .Z).int (l.getD i .Z).int = true := by
  intro q
  induction q with
  | zero => intro i _ hq; exact absurd hq (Nat.not_lt_zero _)
  | succ q ih =>
    intro i hi hq
    cases ho : okN lessR l i
    · obtain ⟨k, hk, h⟩ := okN_false ho
      have h : lessI (l.getD k .Z).int (l.getD i .Z).int = true := h
      have h1 := less_pc (hU _ (ints_mem hk)) (hU _ (ints_mem hi)) h
      obtain ⟨m, hm, h3, h4⟩ := ih k hk (by omega)
      exact ⟨m, hm, h3, belowB_trans h4 (lessI_below h)⟩
    · exact ⟨i, hi, ho, belowB_self _⟩
/-- The different labels of a list. -/
def ddp (l : List Int) : List Int := l.foldl addI []
theorem foldA_nodup : ∀ (l : List Int) {R : List Int}, R.Nodup → (l.foldl addI R).Nodup
  | [], _, h => h
  | x :: l, _, h => foldA_nodup l (addI_nodup h)
theorem foldA_mem {z : Int} : ∀ (l : List Int) {R : List Int}, z ∈ l.foldl addI R ↔ z ∈ R ∨ z ∈ l
  | [], _ => by simp
  | x :: l, R => by
    rw [List.foldl_cons, foldA_mem l, mem_addI, List.mem_cons, or_assoc]
theorem ddp_nodup (l : List Int) : (ddp l).Nodup := foldA_nodup l (by simp)
theorem ddp_mem {l : List Int} {z : Int} : z ∈ ddp l ↔ z ∈ l := by rw [ddp, foldA_mem]; simp
theorem ddp_take {l : List D} {i : Nat} (h : i < l.length) : ddp (ints (l.take (i + 1))) = addI (ddp (ints (l.take i))) (l.getD i .Z).int := by
  have e : l.take (i + 1) = l.take i ++ [l.getD i .Z] := by
    rw [List.take_add_one, List.getD_eq_getElem?_getD, List.getElem?_eq_getElem h]; rfl
  rw [e, ints, List.map_append, ddp, List.foldl_append]; rfl
/-- A label as high as this has so many others below it. -/
theorem chain_of {L : List Int} (hL : ∀ y, y ∈ L → InU y) : ∀ (q : Nat) (x : Int), x ∈ L → pcI x < q → ∃ c : List Int, c.length + 1 = hgt L x ∧ (∀ y, y ∈ c → y ∈ L ∧ lessI y x = true) ∧ c.Pairwise fun a b => lessI b a = true := by
  intro q
  induction q with
  | zero => intro x _ hq; exact absurd hq (Nat.not_lt_zero _)
  | succ q ih =>
    intro x hx hq
    rcases (hgt_mx hL (hL x hx)).is with h | ⟨y, hy, hl, h⟩
    · exact ⟨[], by simp [h], fun _ h => (by cases h), List.Pairwise.nil⟩
    · have h1 := less_pc (hL y hy) (hL x hx) hl
      obtain ⟨c, c1, c2, c3⟩ := ih y hy (by omega)
      refine ⟨y :: c, by rw [h, ← c1]; rfl, fun z hz => ?_, List.pairwise_cons.2 ⟨fun z hz => (c2 z hz).2, c3⟩⟩
      rcases List.mem_cons.1 hz with e | hz
      · subst e; exact ⟨hy, hl⟩
      · have h2 := c2 z hz
        refine ⟨h2.1, ?_⟩
        rw [lessI, Bool.and_eq_true]
        refine ⟨?_, belowB_trans (lessI_below h2.2) (lessI_below hl)⟩
        have := less_pc (hL z h2.1) (hL y hy) h2.2
        rw [bne_iff_ne]; intro e; subst e; omega
theorem dec_nodup {L : List Int} (hL : ∀ y, y ∈ L → InU y) {c : List Int} (hc : ∀ y, y ∈ c → y ∈ L) (h : c.Pairwise fun a b => lessI b a = true) : c.Nodup := by
  refine List.Pairwise.imp (fun {a b} hab => ?_) h
  rw [lessI, Bool.and_eq_true, bne_iff_ne] at hab
  exact fun e => hab.1 e.symm
theorem full_chain {L : List Int} (hL : ∀ y, y ∈ L → InU y) {x : Int} (hx : x ∈ L) : ∃ c : List Int, c.length = hgt L x ∧ (∀ y, y ∈ c → y ∈ L) ∧ c.Pairwise fun a b => lessI b a = true := by
  obtain ⟨c, c1, c2, c3⟩ := chain_of hL 65 x hx (by have := pcI_le x; omega)
  refine ⟨x :: c, c1, fun y hy => ?_, List.pairwise_cons.2 ⟨fun y hy => (c2 y hy).2, c3⟩⟩
  rcases List.mem_cons.1 hy with e | hy
  · subst e; exact hx
  · exact (c2 y hy).1
theorem top_le_ddp {L : List Int} (hL : ∀ y, y ∈ L → InU y) : top L ≤ (ddp L).length := by
  rcases (top_mx L).is with h | ⟨x, hx, h⟩
  · omega
  · obtain ⟨c, c1, c2, c3⟩ := full_chain hL hx
    have := nodup_le (b := ddp L) (dec_nodup hL c2 c3) fun y hy => ddp_mem.2 (c2 y hy)
    omega
/-- Any two labels can be compared. -/
def AllC (L : List Int) : Prop := ∀ a b, a ∈ L → b ∈ L → badC a b = false
theorem badC_cases {a b : Int} (h : badC a b = false) : a = b ∨ lessI a b = true ∨ lessI b a = true := by
  by_cases e : a = b
  · exact .inl e
  · rw [badC, Bool.and_eq_false_iff, Bool.not_eq_false', Bool.not_eq_false'] at h
    rcases h with h | h
    · exact .inr (.inl (by rw [lessI, h, Bool.and_true, bne_iff_ne]; exact e))
    · exact .inr (.inr (by rw [lessI, h, Bool.and_true, bne_iff_ne]; exact fun h => e h.symm))
theorem badC_less {a b : Int} (h : lessI a b = true ∨ lessI b a = true) : badC a b = false := by
  rw [badC, Bool.and_eq_false_iff, Bool.not_eq_false', Bool.not_eq_false']
  exact h.imp lessI_below lessI_below
theorem top_eq_all {L : List Int} (hL : ∀ y, y ∈ L → InU y) (h : top L = (ddp L).length) : AllC L := by
  rcases (top_mx L).is with h0 | ⟨x, hx, h0⟩
  · intro a b ha _
    have := List.length_pos_of_mem (ddp_mem.2 ha)
    omega
  · obtain ⟨c, c1, c2, c3⟩ := full_chain hL hx
    have hn := dec_nodup hL c2 c3
    have hall : ∀ z, z ∈ L → z ∈ c := fun z hz => by
      by_cases hc : z ∈ c
      · exact hc
      · exfalso
        have := nodup_le (a := z :: c) (b := ddp L) (List.nodup_cons.2 ⟨hc, hn⟩) fun y hy => by
          rcases List.mem_cons.1 hy with e | hy
          · subst e; exact ddp_mem.2 hz
          · exact ddp_mem.2 (c2 y hy)
        simp only [List.length_cons] at this
        omega
    intro a b ha hb
    obtain ⟨i, hi, ei⟩ := List.getElem_of_mem (hall a ha)
    obtain ⟨j, hj, ej⟩ := List.getElem_of_mem (hall b hb)
    rcases Nat.lt_trichotomy i j with e | e | e
    · have := List.pairwise_iff_getElem.1 c3 i j hi hj e
      rw [ei, ej] at this
      exact badC_less (.inr this)
    · subst e
      rw [ei] at ej; subst ej; exact badC_self a
    · have := List.pairwise_iff_getElem.1 c3 j i hj hi e
      rw [ei, ej] at this
      exact badC_less (.inl this)
/-- The greatest of a list of labels. -/
theorem max_pc : ∀ (l : List Int), l ≠ [] → ∃ y, y ∈ l ∧ ∀ z, z ∈ l → pcI z ≤ pcI y
  | [x], _ => ⟨x, by simp, fun z hz => by rw [List.mem_singleton] at hz; subst hz; exact Nat.le_refl _⟩
  | x :: y :: l, _ => by
    obtain ⟨m, hm, h⟩ := max_pc (y :: l) (by simp)
    by_cases hx : pcI m ≤ pcI x
    · refine ⟨x, by simp, fun z hz => ?_⟩
      rcases List.mem_cons.1 hz with e | hz
      · subst e; exact Nat.le_refl _
      · exact Nat.le_trans (h z hz) hx
    · refine ⟨m, List.mem_cons_of_mem _ hm, fun z hz => ?_⟩
      rcases List.mem_cons.1 hz with e | hz
      · subst e; omega
      · exact h z hz
theorem count_le {L : List Int} (hL : ∀ y, y ∈ L → InU y) (hC : AllC L) : ∀ (q : Nat) (x : Int), x ∈ L → pcI x < q → ∀ D : List Int, D.Nodup → (∀ y, y ∈ D → y ∈ L ∧ (y = x ∨ lessI y x = true)) → D.length ≤ hgt L x := by
  intro q
  induction q with
  | zero => intro x _ hq; exact absurd hq (Nat.not_lt_zero _)
  | succ q ih =>
    intro x hx hq D hn hD
    have hlo := (hgt_mx hL (hL x hx)).lo
    have he : D.length ≤ (D.erase x).length + 1 := by
      by_cases h : x ∈ D
      · rw [List.length_erase_of_mem h]; have := List.length_pos_of_mem h; omega
      · rw [List.erase_of_not_mem h]; omega
    by_cases h0 : D.erase x = []
    · rw [h0] at he; simp only [List.length_nil] at he; omega
    · obtain ⟨y, hy, hm⟩ := max_pc _ h0
      have hne : ∀ z, z ∈ D.erase x → z ∈ L ∧ lessI z x = true := fun z hz => by
        have h1 := hD z (List.mem_of_mem_erase hz)
        refine ⟨h1.1, h1.2.resolve_left fun e => ?_⟩
        subst e
        exact hn.not_mem_erase hz
      have hyL := hne y hy
      have hp := less_pc (hL y hyL.1) (hL x hx) hyL.2
      have h2 := ih y hyL.1 (by omega) (D.erase x) (hn.erase x) fun z hz => by
        have hz' := hne z hz
        refine ⟨hz'.1, ?_⟩
        rcases badC_cases (hC z y hz'.1 hyL.1) with e | e | e
        · exact .inl e
        · exact .inr e
        · exfalso
          have h3 := less_pc (hL y hyL.1) (hL z hz'.1) e
          have h4 := hm z hz
          omega
      have h3 := (hgt_mx hL (hL x hx)).up _ ⟨y, hyL.1, hyL.2, rfl⟩
      omega
theorem all_top_eq {L : List Int} (hL : ∀ y, y ∈ L → InU y) (hC : AllC L) : top L = (ddp L).length := by
  apply Nat.le_antisymm (top_le_ddp hL)
  by_cases h0 : ddp L = []
  · rw [h0]; simp
  · obtain ⟨x, hx, hm⟩ := max_pc _ h0
    have hxL := ddp_mem.1 hx
    have h1 := count_le hL hC 65 x hxL (by have := pcI_le x; omega) (ddp L) (ddp_nodup L) fun y hy => by
      have hyL := ddp_mem.1 hy
      refine ⟨hyL, ?_⟩
      rcases badC_cases (hC y x hyL hxL) with e | e | e
      · exact .inl e
      · exact .inr e
      · exfalso
        have h3 := less_pc (hL x hxL) (hL y hyL) e
        have h4 := hm y hy
        omega
    have h2 := (top_mx L).up _ ⟨x, hxL, rfl⟩
    omega
theorem chain_all {l : List D} (h0 : famE l.length = 0) : chainB l = true ↔ AllC (ints l) := by
  constructor
  · intro h a b ha hb
    obtain ⟨i, hi, rfl⟩ := mem_ints ha
    obtain ⟨j, hj, rfl⟩ := mem_ints hb
    cases hc : badC (l.getD i .Z).int (l.getD j .Z).int
    · rfl
    · rw [chain_no h0 hi hj hc] at h; cases h
  · intro h
    exact chain_yes h0 fun a b hb ha => h _ _ (ints_mem ha) (ints_mem (by omega))
theorem chain_top {l : List D} (h0 : famE l.length = 0) (hU : ∀ y, y ∈ ints l → InU y) : chainB l = (top (ints l) == (ddp (ints l)).length) := by
  rw [Bool.eq_iff_iff, beq_iff_eq, chain_all h0]
  exact ⟨all_top_eq hU, top_eq_all hU⟩
end Go.Proofs.Ytohgdncglegjmaa
