/- Gates: finding, releasing, what is seen. -/
import Derived.Test.YtpfpgjkbnjnjnaaWMa
namespace Go.Proofs.Ytpfpgjkbnjnjnaa
open Go Go.Vm Rg
set_option linter.unusedSimpArgs false
set_option linter.unusedVariables false
set_option maxRecDepth 10000
theorem gk_ok {c g : D} (h : gkE c g = 0) : Cf.chE c = 0 ∧ stE (gS g) = 0 ∧ lenBad c (gS g) = false ∧ fitB c (gS g) = true ∧ Cf.qk c (gR g) = 0 := by
  unfold gkE at h
  split at h
  · rename_i h1; exact absurd h h1
  split at h
  · rename_i h1; exact absurd h h1
  split at h
  · cases h
  split at h
  · cases h
  rename_i h1 h2 h3 h4
  exact ⟨by simpa using h1, by simpa using h2, by simpa using h3, by simpa using h4, h⟩
theorem get_7 {s d : D} (h : stE s = 0) (h2 : getTE s d ≠ 0) : getTE s d = 7 := by
  unfold getTE at h2 ⊢
  rw [if_neg (by simp [h])] at h2 ⊢
  split at h2
  · rename_i h3; rw [if_pos h3]
  · rename_i h3
    rw [if_neg h3]
    unfold getE at h2 ⊢
    have hc : cI s (d.nth 0).int < nG s := by
      unfold cE at h3
      split at h3
      · rename_i h4; exact h4
      · simp at h3
    have h0 := (st_ok h).1.2 _ hc
    rw [if_neg (by simp [h0])] at h2 ⊢
    split at h2
    · rename_i h4; rw [if_pos h4]
    · exact absurd rfl h2
def ofE (x : D) : D := .L [.I ((x.nth 0).nth 0).int, .I (x.nth 3).int, .I (x.nth 4).int]
def sOf : Sum := ⟨[storedS], fun _ => none, fun
  | [x] => .dat eventS (ofE x)
  | _ => .und⟩
def outB (c : D) (n : Int) : Bool := ltB n 0 || leB (Cf.nR c : Int) n
def ffE (c g : D) (n : Int) (d : D) : Int := if outB c n = true then 20 else if Cf.belowB (d.nth 0).int ((Cf.rlsAt c n.toNat).nth 1).int = false then 7 else if getTE (gS g) d ≠ 0 then 7 else Ru.relErr (Cf.rlsAt c n.toNat) (ofE (getT (gS g) d))
def ffV (c g : D) (n : Int) (d : D) : D := if outB c n = true then D0 eventS else if Cf.belowB (d.nth 0).int ((Cf.rlsAt c n.toNat).nth 1).int = false then D0 eventS else if getTE (gS g) d ≠ 0 then D0 eventS else Ru.relF (Cf.rlsAt c n.toNat) (ofE (getT (gS g) d))
theorem ff_1 {c g d : D} {n : Int} (h : outB c n = true) : ffE c g n d = 20 ∧ ffV c g n d = D0 eventS := ⟨if_pos h, if_pos h⟩
theorem ff_2 {c g d : D} {n : Int} (h : outB c n = false) (h2 : Cf.belowB (d.nth 0).int ((Cf.rlsAt c n.toNat).nth 1).int = false) : ffE c g n d = 7 ∧ ffV c g n d = D0 eventS := by
  have h' : ¬ outB c n = true := by rw [h]; decide
  exact ⟨(if_neg h').trans (if_pos h2), (if_neg h').trans (if_pos h2)⟩
theorem ff_3 {c g d : D} {n : Int} (h : outB c n = false) (h2 : Cf.belowB (d.nth 0).int ((Cf.rlsAt c n.toNat).nth 1).int = true) (h3 : getTE (gS g) d ≠ 0) : ffE c g n d = 7 ∧ ffV c g n d = D0 eventS := by
  have h' : ¬ outB c n = true := by rw [h]; decide
  have h2' : ¬ Cf.belowB (d.nth 0).int ((Cf.rlsAt c n.toNat).nth 1).int = false := by rw [h2]; decide
  exact ⟨(if_neg h').trans ((if_neg h2').trans (if_pos h3)), (if_neg h').trans ((if_neg h2').trans (if_pos h3))⟩
theorem ff_4 {c g d : D} {n : Int} (h : outB c n = false) (h2 : Cf.belowB (d.nth 0).int ((Cf.rlsAt c n.toNat).nth 1).int = true) (h3 : getTE (gS g) d = 0) :
    ffE c g n d = Ru.relErr (Cf.rlsAt c n.toNat) (ofE (getT (gS g) d)) ∧ ffV c g n d = Ru.relF (Cf.rlsAt c n.toNat) (ofE (getT (gS g) d)) := by
  have h' : ¬ outB c n = true := by rw [h]; decide
  have h2' : ¬ Cf.belowB (d.nth 0).int ((Cf.rlsAt c n.toNat).nth 1).int = false := by rw [h2]; decide
  have h3' : ¬ getTE (gS g) d ≠ 0 := fun h => h h3
  exact ⟨(if_neg h').trans ((if_neg h2').trans (if_neg h3')), (if_neg h').trans ((if_neg h2').trans (if_neg h3'))⟩
theorem two {s : Sh} {V V' : D} {E E' : Int} (h : E' = E ∧ V' = V) : Bears s V V' ∧ Bears i64 (.I E) (.I E') ∧ True := ⟨Bears.same (eqSame h.2.symm), Bears.int h.1.symm, trivial⟩
theorem notT {b : Bool} (h : (!b) = true) : b = false := by simpa using h
theorem notF {b : Bool} (h : (!b) = false) : b = true := by simpa using h
theorem belT {a b : Int} (h : (bitsOp .andNot .u64 a b != 0) = true) : Cf.belowB a b = false := by rw [Cf.belowB]; simpa [bne] using h
theorem belF {a b : Int} (h : (bitsOp .andNot .u64 a b != 0) = false) : Cf.belowB a b = true := by rw [Cf.belowB]; simpa [bne] using h
theorem inR_of {c : D} {n : Int} (h : outB c n = false) : 0 ≤ n ∧ n < (Cf.nR c : Int) := by
  simp only [outB, Bool.or_eq_false_iff, ltB_false] at h
  have h2 : ¬ leB (Cf.nR c : Int) n = true := by rw [h.2]; decide
  rw [leB_true] at h2
  omega
def fdE (c g : D) (n : Int) (d : D) : Int := if gkE c g ≠ 0 then gkE c g else ffE c g n d
def fdV (c g : D) (n : Int) (d : D) : D := if gkE c g ≠ 0 then D0 eventS else ffV c g n d
theorem fd_1 {c g d : D} {n : Int} (h : gkE c g ≠ 0) : fdE c g n d = gkE c g ∧ fdV c g n d = D0 eventS := ⟨if_pos h, if_pos h⟩
theorem fd_0 {c g d : D} {n : Int} (h : gkE c g = 0) : fdE c g n d = ffE c g n d ∧ fdV c g n d = ffV c g n d := ⟨if_neg (by simp [h]), if_neg (by simp [h])⟩
def sFf : Sum := ⟨[Cf.configS, gateS, i64, idS], fun _ => none, fun
  | [c, g, n, d] => .tup [.dat eventS (ffV c g n.int d), .dat i64 (.I (ffE c g n.int d))]
  | _ => .und⟩
def sFd : Sum := ⟨[Cf.configS, gateS, i64, idS], fun _ => none, fun
  | [c, g, n, d] => .tup [.dat eventS (fdV c g n.int d), .dat i64 (.I (fdE c g n.int d))]
  | _ => .und⟩
def cFd : Ctx := ⟨tabM, refsM, [(30, sGk), (33, sGetT), (34, Ru.sRelease)], [], keep, mpsM⟩
theorem fd_fun : FunOK cFd 100 Try.f12 sFd := fun c hc g hg n hn d hd _ => by
  refine ⟨fun h1 => two (fd_1 (bneT h1)), fun h1 => ?_⟩
  have e := fun n d => fd_0 (c := c) (g := g) (d := d) (n := n) (bneF h1)
  have hS := (gk_ok (bneF h1)).2.1
  have two' : ∀ {V : D} {E : Int}, ffE c g n.int d = E ∧ ffV c g n.int d = V → Bears eventS V (fdV c g n.int d) ∧ Bears i64 (.I E) (.I (fdE c g n.int d)) ∧ True := fun h => two ⟨(e _ _).1.trans h.1, (e _ _).2.trans h.2⟩
  refine ⟨fun h2 => two' (ff_1 h2), fun h2 => ⟨inR_of h2, fun h3 => two' (ff_2 h2 (belT h3)), fun h3 => ⟨fun h4 => ?_, fun h4 => two' (ff_4 h2 (belF h3) (bneF h4))⟩⟩⟩
  have h5 := ff_3 h2 (belF h3) (bneT h4)
  exact two' ⟨h5.1.trans (get_7 hS (bneT h4)).symm, h5.2⟩
def cFfR : Ctx := ⟨tabM, refsM, [], [], keep, mpsM⟩
def cFdR : Ctx := ⟨tabM, refsM, [], [], keep, mpsM⟩
def rlE (c g : D) (n : Int) (d : D) : Int := if fdE c g n d ≠ 0 then fdE c g n d else paE c g (fdV c g n d)
def rlG (c g : D) (n : Int) (d : D) : D := if rlE c g n d ≠ 0 then D0 gateS else paG c g (fdV c g n d)
def rlR (c g : D) (n : Int) (d : D) : D := if rlE c g n d ≠ 0 then D0 recS else .L [.I n, d, .I (d.nth 0).int, .I ((fdV c g n d).nth 0).int, .I ((gS g).nth 2).int]
def sRl : Sum := ⟨[Cf.configS, gateS, i64, idS], fun _ => none, fun
  | [c, g, n, d] => .tup [.dat gateS (rlG c g n.int d), .dat recS (rlR c g n.int d), .dat i64 (.I (rlE c g n.int d))]
  | _ => .und⟩
def cRl : Ctx := ⟨tabM, refsM, [(12, sFd), (32, sPa)], [], keep, mpsM⟩
theorem put_lab {s e : D} (h : putTE s e = 0) : ((putX s e).nth 0 |>.nth 0).int = (e.nth 0).int := by
  have h1 : stE s = 0 := by
    apply Classical.byContradiction
    intro hn
    rw [pu_1 hn] at h; exact hn h
  have h2 : evC e = 0 := by
    apply Classical.byContradiction
    intro hn
    rw [pu_2 h1 hn] at h; exact hn h
  have h3 : cE s (labE e) = 0 := by
    apply Classical.byContradiction
    intro hn
    rw [pu_3 h1 h2 hn] at h; exact hn h
  have hc : cI s (labE e) < nG s := by
    unfold cE at h3
    split at h3
    · rename_i h4; exact h4
    · simp at h3
  rw [← (pu_ok h).2.1]
  exact cI_is hc
theorem pa_lab {c g e : D} (h : paE c g e = 0) : ((paX c g e).nth 0 |>.nth 0).int = (e.nth 0).int := by
  have h0 : evBad e = false := by
    cases hb : evBad e with
    | false => rfl
    | true => rw [(pa_1 hb).1] at h; cases h
  have h1 : Cf.useX c (gR g) (e.nth 0).int = 0 := by
    apply Classical.byContradiction
    intro hn
    rw [(pa_2 h0 hn).1] at h
    exact hn h
  have h2 : putTE (gS g) e = 0 := by rw [← pa_3 h0 h1]; exact h
  rw [(pa_0 h0 h1 h2).2.2]
  exact put_lab h2
theorem rl_1 {c g d : D} {n : Int} (h : fdE c g n d ≠ 0) : rlE c g n d = fdE c g n d ∧ rlG c g n d = D0 gateS ∧ rlR c g n d = D0 recS := by
  have e : rlE c g n d = fdE c g n d := if_pos h
  exact ⟨e, if_pos (by rw [e]; exact h), if_pos (by rw [e]; exact h)⟩
theorem rl_2 {c g d : D} {n : Int} (h : fdE c g n d = 0) (h2 : paE c g (fdV c g n d) ≠ 0) : rlE c g n d = paE c g (fdV c g n d) ∧ rlG c g n d = D0 gateS ∧ rlR c g n d = D0 recS := by
  have e : rlE c g n d = paE c g (fdV c g n d) := if_neg fun h' => h' h
  exact ⟨e, if_pos (by rw [e]; exact h2), if_pos (by rw [e]; exact h2)⟩
theorem rl_0 {c g d : D} {n : Int} (h : fdE c g n d = 0) (h2 : paE c g (fdV c g n d) = 0) :
    rlE c g n d = 0 ∧ rlG c g n d = paG c g (fdV c g n d) ∧ rlR c g n d = .L [.I n, d, .I (d.nth 0).int, .I ((fdV c g n d).nth 0).int, .I ((gS g).nth 2).int] := by
  have e : rlE c g n d = 0 := (if_neg fun h' => h' h).trans h2
  exact ⟨e, if_neg (by simp [e]), if_neg (by simp [e])⟩
theorem threeR {G X : D} {E : Int} {G' X' : D} {E' : Int} (h : E' = E ∧ G' = G ∧ X' = X) : Bears gateS G G' ∧ Bears recS X X' ∧ Bears i64 (.I E) (.I E') ∧ True :=
  ⟨Bears.same (eqSame h.2.1.symm), Bears.same (eqSame h.2.2.symm), Bears.int h.1.symm, trivial⟩
theorem rl_fun : FunOK cRl 100 Try.f13 sRl := fun c hc g hg n hn d hd _ => by
  refine ⟨fun h1 => threeR (rl_1 (bneT h1)), fun h1 => ⟨fun h2 => threeR (rl_2 (bneF h1) (bneT h2)), fun h2 => ⟨by kernel_rfl, threeR ?_⟩⟩⟩
  have h3 := rl_0 (bneF h1) (bneF h2)
  have h4 : ((paX c g (fdV c g n.int d)).nth 0 |>.nth 0).int = ((fdV c g n.int d).nth 0).int := pa_lab (bneF h2)
  refine ⟨h3.1, h3.2.1, h3.2.2.trans ?_⟩
  show D.L [.I n.int, d, .I (d.nth 0).int, .I ((fdV c g n.int d).nth 0).int, .I ((gS g).nth 2).int] = D.L [.I n.int, d, .I (d.nth 0).int, .I ((paX c g (fdV c g n.int d)).nth 0 |>.nth 0).int, .I ((gS g).nth 2).int]
  rw [h4]
def seeP (L : Int) (x : D) : Bool := Cf.belowB ((x.nth 0).nth 0).int L
theorem fil_take {p : D → Bool} {l : List D} {i : Nat} (h : i < l.length) : (l.take (i + 1)).filter p = (l.take i).filter p ++ if p (l.getD i .Z) = true then [l.getD i .Z] else [] := by
  have e : l.take (i + 1) = l.take i ++ [l.getD i .Z] := by
    rw [List.take_add_one, List.getD_eq_getElem?_getD, List.getElem?_eq_getElem h]; rfl
  rw [e, List.filter_append]
  congr 1
  by_cases hp : p (l.getD i .Z) = true
  · rw [if_pos hp, List.filter_cons_of_pos hp]; rfl
  · rw [if_neg hp, List.filter_cons_of_neg hp]; rfl
theorem list_len {s : D} (h : stE s = 0) : (listT s).length ≤ 512 := by
  rw [← listT_ok h, mrg, srt_len]
  exact flat_len (st_ok h).1
def seL (c g : D) (L : Int) : List D := if gkE c g ≠ 0 then [] else (mrg (gS g)).filter (seeP L)
def seU (c g : D) (L : Int) : List D := if gkE c g ≠ 0 then [] else Cf.seenU c (gR g) L (Cf.nU (gR g))
def sSe : Sum := ⟨[Cf.configS, gateS, u64], fun _ => none, fun
  | [c, g, l] => .tup [.dat (.slice storedS) (.L (seL c g l.int)), .dat (.slice i64) (.L (seU c g l.int)), .dat i64 (.I (gkE c g))]
  | _ => .und⟩
theorem se_bad {c g : D} {L E : Int} (h : gkE c g ≠ 0) (hE : E = gkE c g) : Bears (.slice storedS) (.L []) (.L (seL c g L)) ∧ Bears (.slice i64) (.L []) (.L (seU c g L)) ∧ Bears i64 (.I E) (.I (gkE c g)) ∧ True :=
  ⟨Bears.same (eqSame (congrArg D.L (if_pos h).symm)), Bears.same (eqSame (congrArg D.L (if_pos h).symm)), Bears.int hE, trivial⟩
theorem se_ok {c g : D} {L E : Int} {l u : List D} (h : gkE c g = 0) (hE : E = 0) (hl : l = (mrg (gS g)).filter (seeP L)) (hu : u = Cf.seenU c (gR g) L (Cf.nU (gR g))) : Bears (.slice storedS) (.L l) (.L (seL c g L)) ∧ Bears (.slice i64) (.L u) (.L (seU c g L)) ∧ Bears i64 (.I E) (.I (gkE c g)) ∧ True := by
  have h' : ¬ gkE c g ≠ 0 := fun h2 => h2 h
  exact ⟨Bears.same (eqSame (congrArg D.L (hl.trans (if_neg h').symm))), Bears.same (eqSame (congrArg D.L (hu.trans (if_neg h').symm))), Bears.int (hE.trans h.symm), trivial⟩
def cSe : Ctx := ⟨tabM, refsM, [(30, sGk), (37, sListT), (38, Cf.sSeen)], [], keep, mpsM⟩
theorem se_fun : FunOK cSe 100 Try.f15 sSe := fun c hc g hg l hl _ => by
  refine ⟨fun h1 => se_bad (bneT h1) rfl, fun h1 => ⟨fun h2 => absurd (gk_ok (bneF h1)).2.1 (bneT h2), fun h2 => ?_⟩⟩
  have e0 : gkE c g = 0 := bneF h1
  have eS : stE (gS g) = 0 := (gk_ok e0).2.1
  clear h1 h2
  obtain ⟨X, hX⟩ : ∃ X, X = listT (gS g) := ⟨_, rfl⟩
  have hl : X.length ≤ 512 := by rw [hX]; exact list_len eS
  refine ⟨{ k : Nat // k ≤ X.length }, 6, fun k => ([(33, .dat i64 (.I k.1)), (32, .dat i64 (.I X.length)), (31, .dat (.slice storedS) (.L X)), (12, .own 5 storedS), (4, .ptr 1 gateS [] gateS), (3, .ptr 0 Cf.configS [] Cf.configS), (2, .dat u64 (.I l.int))], [(5, .grow storedS ((X.take k.1).filter (seeP l.int))), (1, .box gateS (.dat gateS g)), (0, .box Cf.configS (.dat Cf.configS c))]), fun k => X.length - k.1,
    ⟨0, Nat.zero_le _⟩, ⟨[(5, 4)], rfl, ⟨rfl, slot (by rw [hX]; rfl), slotD (congrArg D.L hX.symm), rfl, rfl, rfl, rfl, trivial⟩, ⟨rfl, rfl, rfl, trivial⟩⟩, ?_⟩
  intro k
  obtain ⟨k, hk⟩ := k
  have hf : ((X.take k).filter (seeP l.int)).length ≤ 512 := by
    have h := List.length_filter_le (seeP l.int) (X.take k)
    rw [List.length_take] at h; omega
  have hq := (gk_ok e0).2.2.2.2
  have yes : ∀ (hlt : k < X.length), seeP l.int (X.getD k .Z) = true → (X.take k).filter (seeP l.int) ++ [X.getD k .Z] = (X.take (k + 1)).filter (seeP l.int) := fun hlt h => by rw [fil_take hlt, if_pos h]
  have no : ∀ (hlt : k < X.length), seeP l.int (X.getD k .Z) = false → (X.take k).filter (seeP l.int) = (X.take (k + 1)).filter (seeP l.int) := fun hlt h => by rw [fil_take hlt, if_neg (by rw [h]; decide), List.append_nil]
  have fin : k = X.length → (X.take k).filter (seeP l.int) = (mrg (gS g)).filter (seeP l.int) := fun e => by rw [e, List.take_length, hX, ← listT_ok eS]
  refine ⟨fun h1 => ⟨ix (ltN h1), fun h2 => ⟨?_, ?_⟩, fun h2 => ?_⟩, fun h1 => se_ok e0 hq (fin (geN hk h1)) (if_neg fun h => h hq)⟩
  · show ((X.take k).filter (seeP l.int)).length + 1 ≤ 1073741824
    omega
  · have hlt : k < X.length := ltN h1
    exact ⟨⟨k + 1, hlt⟩, ⟨[(5, 8)], rfl, ⟨slot (i64_1 (n := k) (by omega)), rfl, rfl, rfl, rfl, rfl, rfl, trivial⟩, ⟨gro (yes hlt h2), rfl, rfl, trivial⟩⟩, stepLt hlt⟩
  · have hlt : k < X.length := ltN h1
    exact ⟨⟨k + 1, hlt⟩, ⟨[], rfl, ⟨slot (i64_1 (n := k) (by omega)), rfl, rfl, rfl, rfl, rfl, rfl, trivial⟩, ⟨gro (no hlt h2), rfl, rfl, trivial⟩⟩, stepLt hlt⟩
def cSeR : Ctx := ⟨tabM, refsM, [], [], keep, mpsM⟩
end Go.Proofs.Ytpfpgjkbnjnjnaa
