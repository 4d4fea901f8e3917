/- Accounts of rings: the law RingEvicts. -/
import Derived.Test.YtlmokgfjfogdoaaGt
import Derived.Test.YtlmokgfjfogdoaaGk
namespace Go.Proofs.Ytlmokgfjfogdoaa
open Go Go.Vm
set_option linter.unusedSimpArgs false
set_option maxRecDepth 10000
/-! ### Short names for what the functions give -/
def evO (r : D) (n h : Int) : D := if evE r n h ≠ 0 then D0 ringS else evR r (evN r n h)
def evM (r : D) (n h : Int) : Int := if evE r n h ≠ 0 then 0 else evN r n h
def sEvict2 : Sum := ⟨[ringS, u64, u64], fun _ => none, fun
  | [r, now, hor] => .tup [.dat ringS (evO r now.int hor.int), .dat i64 (.I (evM r now.int hor.int)), .dat i64 (.I (evE r now.int hor.int))]
  | _ => .und⟩
theorem evict_ok2 : SumOK Try.prog 27 sEvict2 := evict_ok
def mR (s : Int) (l : List D) : D := (madeSt (madeZ s) l (madeN l)).r
def mA (s : Int) (l : List D) : List D := (madeSt (madeZ s) l (madeN l)).all
def sMade2 : Sum := ⟨[i64, .slice i64], fun _ => none, fun
  | [s, l] => .tup [.dat ringS (mR s.int l.list), .dat (.slice storedS) (.L (mA s.int l.list)), .dat .bool (.B true)]
  | _ => .und⟩
theorem made_ok2 : SumOK Try.prog 32 sMade2 := made_ok
def frL (r : D) (no : Int) : List D := if chk r ≠ 0 then [] else fromL r no (fromN r no)
def sFrom2 : Sum := ⟨[ringS, u64], fun _ => none, fun
  | [r, no] => .tup [.dat (.slice storedS) (.L (frL r no.int)), .dat i64 (.I (chk r))]
  | _ => .und⟩
theorem from_ok2 : SumOK Try.prog 16 sFrom2 := from_ok
def sListP2 : Sum := ⟨[ringS], fun _ => none, fun
  | [r] => .tup [.dat (.slice storedS) (.L (frL r 0)), .dat i64 (.I (chk r))]
  | _ => .und⟩
theorem list_ok2 : SumOK Try.prog 11 sListP2 := listP_ok
def lnI (r : D) : Int := if chk r ≠ 0 then 0 else lenI r
def sLen2 : Sum := ⟨[ringS], fun _ => none, fun
  | [r] => .tup [.dat i64 (.I (lnI r)), .dat i64 (.I (chk r))]
  | _ => .und⟩
theorem len_ok2 : SumOK Try.prog 9 sLen2 := len_ok
def nwE (s : Int) : Int := if ltB s 1 || ltB 64 s then 2 else 0
def sNew2 : Sum := ⟨[u64, i64], fun _ => none, fun
  | [l, s] => .tup [.dat ringS (newR l.int s.int), .dat i64 (.I (nwE s.int))]
  | _ => .und⟩
def cLaw : Ctx := ⟨tabM, [], [(33, sMod), (32, sMade2), (5, sTrue), (27, sEvict2), (25, sPut), (18, sLost), (16, sFrom2), (11, sListP2), (9, sLen2), (14, sGet), (13, sSame)], [], keep, []⟩
theorem made_all (s : Int) (l : List D) : InvSt (madeZ s) (madeN l) (madeSt (madeZ s) l (madeN l)) := by
  have hm := modI_range (a := s) (n := 8) (by omega) (by omega)
  exact made_inv (by unfold madeZ; omega) (by unfold madeZ; omega) l _ (by unfold madeN; omega)

/-! ### Evicting -/
theorem cntUp_shift {p q : Nat → Bool} {d : Nat} : ∀ {m i : Nat}, (∀ k, i ≤ k → k < i + m → p k = q (d + k)) → cntUp p m i = cntUp q m (d + i)
  | 0, _, _ => rfl
  | m + 1, i, h => by
    have ih := cntUp_shift (p := p) (q := q) (d := d) (m := m) (i := i + 1) fun k h1 h2 => h k (by omega) (by omega)
    simp only [cntUp, h i (Nat.le_refl _) (by omega), ih, Nat.add_assoc]
theorem cntUp_split {p : Nat → Bool} : ∀ {n m i : Nat}, n ≤ m → (∀ k, i ≤ k → k < i + n → p k = true) → cntUp p m i = n + cntUp p (m - n) (i + n)
  | 0, m, i, _, _ => by simp
  | n + 1, 0, i, h, _ => by omega
  | n + 1, m + 1, i, h, hp => by
    have ih := cntUp_split (p := p) (n := n) (m := m) (i := i + 1) (by omega) fun k h1 h2 => hp k (by omega) (by omega)
    have e1 : m + 1 - (n + 1) = m - n := by omega
    have e2 : i + (n + 1) = i + 1 + n := by omega
    simp only [cntUp, hp i (Nat.le_refl _) (by omega), if_true, ih, e1, e2]; omega
theorem cntUp_true {p : Nat → Bool} : ∀ {m i : Nat}, ∀ k, i ≤ k → k < i + cntUp p m i → p k = true
  | 0, i, k, h1, h2 => by simp [cntUp] at h2; omega
  | m + 1, i, k, h1, h2 => by
    simp only [cntUp] at h2
    split at h2
    · rename_i hp
      rcases Nat.eq_or_lt_of_le h1 with rfl | h
      · exact hp
      · exact cntUp_true (p := p) (m := m) (i := i + 1) k (by omega) (by omega)
    · omega
theorem cntUp_stop {p : Nat → Bool} : ∀ {m i : Nat}, cntUp p m i = m ∨ p (i + cntUp p m i) = false
  | 0, i => .inl rfl
  | m + 1, i => by
    simp only [cntUp]
    split
    · rcases cntUp_stop (p := p) (m := m) (i := i + 1) with h | h
      · exact .inl (by omega)
      · exact .inr (by rw [show i + (cntUp p m (i + 1) + 1) = i + 1 + cntUp p m (i + 1) by omega]; exact h)
    · rename_i hp
      exact .inr (by simpa using hp)
theorem oldB_evR {r : D} (h : badR r = false) {n k : Nat} (t hor : Int) (hk : n + k < cap r) : oldB (evR r n) t hor k = oldB r t hor (n + k) := by
  simp only [oldB, evAt_evR h hk]
theorem evN_evR {r : D} (h : badR r = false) {n : Nat} (hn : n ≤ cap r) (t hor : Int) : evN (evR r n) t hor = cntUp (oldB r t hor) (cap r - n) n := by
  unfold evN
  rw [cap_evR hn]
  have := cntUp_shift (p := oldB (evR r n) t hor) (q := oldB r t hor) (d := n) (m := cap r - n) (i := 0) fun k _ h2 => oldB_evR h t hor (by omega)
  rw [this]; rfl
theorem evN_le (r : D) (t hor : Int) : evN r t hor ≤ cap r := cntUp_le
theorem evN_again {r : D} (h : badR r = false) (t hor : Int) : evN (evR r (evN r t hor)) t hor = 0 := by
  rw [evN_evR h (evN_le r t hor)]
  rcases cntUp_stop (p := oldB r t hor) (m := cap r) (i := 0) with h1 | h1
  · have : evN r t hor = cap r := h1
    rw [this, Nat.sub_self]; rfl
  · have h2 : oldB r t hor (evN r t hor) = false := by rw [Nat.zero_add] at h1; exact h1
    generalize evN r t hor = n at *
    cases cap r - n with
    | zero => rfl
    | succ m => simp [cntUp, h2]
theorem evN_later {r : D} (h : badR r = false) {t t' : Int} (ht : t ≤ t') (hor : Int) : evN r t' hor = evN r t hor + evN (evR r (evN r t hor)) t' hor := by
  rw [evN_evR h (evN_le r t hor)]
  have := cntUp_split (p := oldB r t' hor) (n := evN r t hor) (m := cap r) (i := 0) (evN_le r t hor) fun k h1 h2 => by
    have := cntUp_true (p := oldB r t hor) (m := cap r) (i := 0) k h1 h2
    simp only [oldB, leB_true] at this ⊢
    omega
  rw [Nat.zero_add] at this
  exact this
theorem evR_evR (r : D) (n : Nat) : ∀ k, evR (evR r n) k = evR r (n + k)
  | 0 => rfl
  | k + 1 => by
    have e : ((evR r n).nth 2).int + (k : Int) + 1 = (r.nth 2).int + ((n + k : Nat) : Int) + 1 := by
      rw [(evR_0 r n).2.2.2]; omega
    show D.puts ringS (D.puts ringS (evR (evR r n) k) [.fld 4, .idx (pl (evR r n) k)] (D0 storedS)) [.fld 2] (.I (((evR r n).nth 2).int + k + 1)) = D.puts ringS (D.puts ringS (evR r (n + k)) [.fld 4, .idx (pl r (n + k))] (D0 storedS)) [.fld 2] (.I ((r.nth 2).int + ((n + k : Nat) : Int) + 1))
    rw [evR_evR r n k, pl_evR, e]
theorem evE_0 {r : D} (h : chk r = 0) {t hor : Int} (h1 : t ≤ 1099511627776) (h2 : 1 ≤ hor) (h3 : hor ≤ 10000) : evE r t hor = 0 := by
  have g : (ltB 1099511627776 t || ltB hor 1 || ltB 10000 hor) = false := by simp only [Bool.or_eq_false_iff, ltB_false]; omega
  simp only [evE, h, g]; rfl
theorem evO_0 {r : D} {t hor : Int} (h : evE r t hor = 0) : evO r t hor = evR r (evN r t hor) := by simp [evO, h]
theorem evM_0 {r : D} {t hor : Int} (h : evE r t hor = 0) : evM r t hor = evN r t hor := by simp [evM, h]
theorem lost_from {r : D} (h : chk r = 0) {no : Int} (h1 : 1 ≤ no) (h2 : no ≤ (r.nth 3).int) : lostE r no = 0 ∧ lostI r no + ((frL r no).length : Int) = (r.nth 3).int - no := by
  have hb := badR_false (chk_bad h)
  have e : lostE r no = 0 := by
    have g : (ltB no 1 || ltB (r.nth 3).int no) = false := by simp only [Bool.or_eq_false_iff, ltB_false]; omega
    simp only [lostE, h, g]; rfl
  refine ⟨e, ?_⟩
  have hs : stI r no ≤ (r.nth 3).int := by unfold stI; split <;> omega
  simp only [lostI, e, frL, h, fromL, ne_eq, not_true, if_false, List.length_map, List.length_range, fromN]
  omega
theorem eqRing1 (d : D) : eqD ringS d d = true := by simp [eqD, eqDs]
def sEvicts : Sum := ⟨[i64, .slice i64, i64, i64, i64, i64], fun _ => none, fun _ => .dat .bool (.B true)⟩
theorem evicts_fun : FunOK cLaw 100 Try.f6 sEvicts := fun s _ l _ now _ later _ hor _ no _ _ => by
  have I := made_all s.int l.list
  have hN : madeN l.list ≤ 40 := by unfold madeN; omega
  have ha := modI_range (a := now.int) (n := 60) (by omega) (by omega)
  have hb := modI_range (a := later.int) (n := 20) (by omega) (by omega)
  have hc := modI_range (a := hor.int) (n := 6) (by omega) (by omega)
  have wa : IntKind.u64.wrap (modI now.int 60) = modI now.int 60 := wrap_u64 (by omega) (by omega)
  have wh : IntKind.u64.wrap (IntKind.i64.wrap (1 + modI hor.int 6)) = 1 + modI hor.int 6 := by rw [wrap_i64 (by omega) (by omega), wrap_u64 (by omega) (by omega)]
  have wt : IntKind.u64.wrap (modI now.int 60 + IntKind.u64.wrap (modI later.int 20)) = modI now.int 60 + modI later.int 20 := by rw [wrap_u64 (n := modI later.int 20) (by omega) (by omega), wrap_u64 (by omega) (by omega)]
  have hI := I.ok
  have hX := I.nxt
  have hL := I.len
  change chk (mR s.int l.list) = 0 at hI
  change ((mR s.int l.list).nth 3).int = ((mA s.int l.list).length : Int) + 1 at hX
  change (mA s.int l.list).length ≤ madeN l.list at hL
  have hbad := chk_bad hI
  have hR := badR_false hbad
  obtain ⟨hc1, hcap, hc2⟩ := cap_le hbad
  have E1 := evE_0 hI (t := modI now.int 60) (hor := 1 + modI hor.int 6) (by omega) (by omega) (by omega)
  have E2 := evE_0 hI (t := modI now.int 60 + modI later.int 20) (hor := 1 + modI hor.int 6) (by omega) (by omega) (by omega)
  have hn := evN_le (mR s.int l.list) (modI now.int 60) (1 + modI hor.int 6)
  have hx := chk_evR hI hn
  have hbx := chk_bad hx
  have F1 := evE_0 hx (t := modI now.int 60) (hor := 1 + modI hor.int 6) (by omega) (by omega) (by omega)
  have F2 := evE_0 hx (t := modI now.int 60 + modI later.int 20) (hor := 1 + modI hor.int 6) (by omega) (by omega) (by omega)
  have G1 := evN_again hbad (modI now.int 60) (1 + modI hor.int 6)
  have G2 := evN_later hbad (t := modI now.int 60) (t' := modI now.int 60 + modI later.int 20) (by omega) (1 + modI hor.int 6)
  have hl := evN_le (mR s.int l.list) (modI now.int 60 + modI later.int 20) (1 + modI hor.int 6)
  have hf := evR_0 (mR s.int l.list) (evN (mR s.int l.list) (modI now.int 60) (1 + modI hor.int 6))
  have O1 := evO_0 E1
  have O2 := evO_0 E2
  have P1 := evO_0 F1
  have P2 := evO_0 F2
  have M1 := evM_0 E1
  have M2 := evM_0 E2
  have N1 := evM_0 F1
  have N2 := evM_0 F2
  rw [G1] at P1 N1
  rw [evR_evR, ← G2] at P2
  have w1 : IntKind.i64.wrap ((evN (mR s.int l.list) (modI now.int 60) (1 + modI hor.int 6) : Int) + (evN (evR (mR s.int l.list) (evN (mR s.int l.list) (modI now.int 60) (1 + modI hor.int 6))) (modI now.int 60 + modI later.int 20) (1 + modI hor.int 6) : Int)) = (evN (mR s.int l.list) (modI now.int 60 + modI later.int 20) (1 + modI hor.int 6) : Int) := by
    rw [G2, wrap_i64 (by omega) (by omega)]; omega
  have w2 : IntKind.u64.wrap (((mR s.int l.list).nth 2).int + IntKind.u64.wrap (evN (mR s.int l.list) (modI now.int 60) (1 + modI hor.int 6) : Int)) = ((evR (mR s.int l.list) (evN (mR s.int l.list) (modI now.int 60) (1 + modI hor.int 6))).nth 2).int := by
    rw [hf.2.2.2, wrap_u64 (n := (evN (mR s.int l.list) (modI now.int 60) (1 + modI hor.int 6) : Int)) (by omega) (by omega), wrap_u64 (by omega) (by omega)]
  have e3 : ((evR (mR s.int l.list) (evN (mR s.int l.list) (modI now.int 60) (1 + modI hor.int 6))).nth 3).int = ((mA s.int l.list).length : Int) + 1 := by rw [hf.2.2.1]; exact hX
  have hno := modI_range (a := no.int) (n := ((mA s.int l.list).length : Int) + 1) (by omega) (by omega)
  have w3 : IntKind.u64.wrap (1 + IntKind.u64.wrap (modI no.int (IntKind.i64.wrap (((mA s.int l.list).length : Int) + 1)))) = 1 + modI no.int (((mA s.int l.list).length : Int) + 1) := by
    rw [wrap_i64 (by omega) (by omega), wrap_u64 (n := modI no.int _) (by omega) (by omega), wrap_u64 (by omega) (by omega)]
  have hLF := lost_from hx (no := 1 + modI no.int (((mA s.int l.list).length : Int) + 1)) (by omega) (by omega)
  refine ⟨fun h1 => ?_, fun _ => Bears.bool ?_⟩
  · exfalso
    simp only [D.int_I, D.bool_B, D.gets_nil, D.gets_fld, List.nil_append, wa, wh, wt, O1, O2, E1, E2, F1, F2, P1, P2, M1, M2, N1, N2, w1, w2] at h1
    simp [evR, eqRing1] at h1
  · simp only [D.int_I, D.bool_B, D.gets_nil, D.gets_fld, List.nil_append, wa, wh, O1, e3, w3, hx, hLF.1, D.list_L]
    have h0 : 0 ≤ lostI (evR (mR s.int l.list) (evN (mR s.int l.list) (modI now.int 60) (1 + modI hor.int 6))) (1 + modI no.int (((mA s.int l.list).length : Int) + 1)) := by
      have := (stI_le (evR (mR s.int l.list) (evN (mR s.int l.list) (modI now.int 60) (1 + modI hor.int 6))) (1 + modI no.int (((mA s.int l.list).length : Int) + 1))).2
      simp only [lostI, hLF.1]
      simp only [ne_eq, not_true, if_false]; omega
    have h2 := hLF.2
    rw [e3] at h2
    rw [wrap_u64 (n := ((frL _ _).length : Int)) (by omega) (by omega), h2]
    simp
theorem evicts_ok : SumOK Try.prog 6 sEvicts := sumOK_of_vc (c := cLaw) (ctxMOK (.cons mod_ok (.cons made_ok2 (.cons known_ok (.cons evict_ok2 (.cons put_ok' (.cons lost_ok (.cons from_ok2 (.cons list_ok2 (.cons len_ok2 (.cons get_ok (.cons same_ok .nil)))))))))))) mixed Try.func6 rfl (by decide) @evicts_fun
end Go.Proofs.Ytlmokgfjfogdoaa
