/- Cursors: CursorGrows. -/
import Derived.Test.YtmdhmjidmiemmaaWQp
namespace Go.Proofs.Ytmdhmjidmiemmaa
open Go Go.Vm Rg
set_option linter.unusedSimpArgs false
set_option linter.unusedVariables false
set_option maxRecDepth 10000
def sLaw4 : Sum := ⟨[i64, .slice i64, i64, u64], fun _ => none, fun _ => .dat .bool (.B true)⟩
def cLaw4 : Ctx := ⟨tabV, refsQ, (9, sMadeQ) :: (11, Cf.sMod) :: (14, sPutT) :: (16, sTick) :: (31, sBelT) :: (33, sSameN) :: lawsQ, [], keep, mpsT⟩
theorem cLaw4_ok : CtxOK Try.prog cLaw4 := CtxOK.of tabVOK refsQOK (.cons madeQ_ok (.cons Cf.mod_ok (.cons putTR_ok (.cons tickTR_ok (.cons belR_ok (.cons sameN_ok cLawQs)))))) FunsOK.nil mpsTOK
def lastI (L : List D) : Nat := (IntKind.i64.wrap ((L.length : Int) - 1)).toNat
def atI (L : List D) (a : Int) : Nat := (Cf.modI a (L.length : Int)).toNat
structure MadeAt (L : List D) (a : Int) (s o : D) : Prop where
  st : stE s = 0
  nn : 0 ≤ (s.nth 1).int ∧ 0 ≤ (s.nth 2).int ∧ 0 ≤ (s.nth 3).int
  old : OldS o s
  eS : L.getD (lastI L) .Z = s
  eO : L.getD (atI L a) .Z = o
  ne : ((L.length : Int) == 0) = false
  iS : 0 ≤ IntKind.i64.wrap ((L.length : Int) - 1) ∧ IntKind.i64.wrap ((L.length : Int) - 1) < (L.length : Int)
  iO : 0 ≤ Cf.modI a (L.length : Int) ∧ Cf.modI a (L.length : Int) < (L.length : Int)
theorem made_at (n : Int) (ns : List D) (a : Int) : ∃ s o, MadeAt (mdL n ns) a s o := by
  obtain ⟨x, I, hx, h1, h21⟩ := made_inv n ns
  have hw : IntKind.i64.wrap (((mdL n ns).length : Int) - 1) = ((mdL n ns).length : Int) - 1 := wrap_i64 (by omega) (by omega)
  have hm := Cf.modI_range (a := a) (n := ((mdL n ns).length : Int)) (by omega) (by omega)
  have hl : lastI (mdL n ns) = (mdL n ns).length - 1 := by rw [lastI, hw]; omega
  have ha : atI (mdL n ns) a < (mdL n ns).length := by rw [atI]; omega
  refine ⟨x.1, _, I.ok, I.nn, I.all _ ?_, ?_, rfl, ?_, by rw [hw]; omega, hm⟩
  · rw [← hx]; exact getD_mem ha
  · rw [hl, ← I.last, hx, List.getLastD_eq_getLast?, List.getLast?_eq_getElem?, List.getD_eq_getElem?_getD]
  · rw [beq_eq_false_iff_ne]; omega
theorem neT {b : Bool} (h : b = false) : ¬ b = true := by rw [h]; decide
theorem grow_c {L : List D} {a l : Int} {s o c : D} (M : MadeAt L a s o) (hc : c = newQ o l) : newQ (L.getD (atI L a) .Z) l = c := by rw [M.eO, hc]
theorem grow_lo {L : List D} {a l : Int} {s o c : D} (M : MadeAt L a s o) (hc : c = newQ o l) : loQ (L.getD (lastI L) .Z) (newQ (L.getD (atI L a) .Z) l) = loQ s c := by rw [M.eO, M.eS, hc]
theorem grow_wt {L : List D} {a l : Int} {s o c : D} (M : MadeAt L a s o) (hc : c = newQ o l) : D.L (wtW (L.getD (lastI L) .Z) (newQ (L.getD (atI L a) .Z) l)) = D.L (wtW s c) := by rw [M.eO, M.eS, hc]
def evG (s : D) (i : Nat) : D := .L [.I (labG s i), .I 7, .I 0]
theorem wtW_ok {s c : D} (h : ckE s c = 0) : wtW s c = wtR s c := (wtW_yes h).symm
theorem loQ_ok {s c : D} (h : ckE s c = 0) : loQ s c = lsT s c (nG s) := (loQ_yes h).symm
theorem grow_put {s c : D} (F : Fits s c) (hn : 0 ≤ (s.nth 1).int ∧ 0 ≤ (s.nth 2).int ∧ 0 ≤ (s.nth 3).int) {i : Nat} (hi : i < nG s) (hp : putTE s (evG s i) = 0) :
    ckE (putT s (evG s i)) c = 0 ∧ wtW (putT s (evG s i)) c = wtW s c ++ if seeB s (cl c) i = true then [putX s (evG s i)] else [] := by
  have h := F.st
  have F2 : Fits (putT s (evG s i)) c := F.old (old_put hn h hp) (pu_right hn h hp)
  refine ⟨F2.ck, ?_⟩
  rw [wtW_ok F2.ck, wtW_ok F.ck, wtR, wtR, pu_mrg hn h hp]
  have e : wQ (putT s (evG s i)) c = wQ s c := by
    funext x
    rw [wQ, wQ, pu_nG hn h hp]
    congr 1
    funext k
    rw [pu_lab hn h hp, ← seeB_old (old_put hn h hp)]
  rw [e, List.filter_append]
  congr 1
  have hc : cI s (labE (evG s i)) = i := cI_lab (st_ok h).2.1 hi
  have hX : putX s (evG s i) = newE s (evG s i) := by rw [putX, if_neg (by simp [hp])]
  have hlb : lbS (newE s (evG s i)) = labG s i := by rw [newE, rgE, hc]; rfl
  have hno : noS (newE s (evG s i)) = nxR s i := by rw [newE, rgE, hc]; rfl
  have hw : wQ s c (newE s (evG s i)) = seeB s (cl c) i := by
    cases hb : seeB s (cl c) i with
    | true =>
      refine anyQ_yes hi ?_
      rw [hlb, hno, hb, beq_self_eq_true, show leB (nxA c i) (nxR s i) = true by rw [leB_true]; exact (F.yes i hi hb).2]; rfl
    | false =>
      refine anyQ_no fun k hk => ?_
      cases hl : labG s k == lbS (newE s (evG s i)) with
      | false => rfl
      | true =>
        rw [hlb] at hl
        have := lab_inj (st_ok h).2.1 hi hk (by simpa using hl)
        rw [this, hb]; rfl
  rw [hX, ← hw, List.filter_cons, List.filter_nil]
theorem grow_tick {s c : D} (F : Fits s c) (hn : 0 ≤ (s.nth 1).int ∧ 0 ≤ (s.nth 2).int ∧ 0 ≤ (s.nth 3).int) (hp : tickE s = 0) :
    ckE (tickT s) c = 0 ∧ 0 ≤ loQ s c ∧ loQ s c ≤ loQ (tickT s) c ∧ loQ (tickT s) c ≤ 8796093022216 ∧ ((wtW s c).length : Int) + loQ s c = ((wtW (tickT s) c).length : Int) + loQ (tickT s) c ∧ (wtW s c).length ≤ 512 ∧ (wtW (tickT s) c).length ≤ 512 := by
  have h := F.st
  have o := old_tick hn h hp
  have F2 : Fits (tickT s) c := F.old o (ti_right hn h hp)
  refine ⟨F2.ck, ?_, ?_, ?_, ?_, ?_, ?_⟩
  · rw [loQ_ok F.ck]; exact (lsT_rng F).1
  · rw [loQ_ok F.ck, loQ_ok F2.ck, lsT_sum F (Nat.le_refl _), lsT_sum F2 (Nat.le_refl _), ti_nG hn h hp]
    refine sumI_le fun k hk => ?_
    have h1 := (ti_nxR hn h hp hk).2
    have h2 := loR_rng F2 (k := k) (by rw [ti_nG hn h hp]; exact hk)
    rw [loR]
    split
    · rename_i h3
      rw [lsB, Bool.and_eq_true, ltB_true] at h3
      have h4 : nxA c k < fiA s k := h3.2
      rw [loR, if_pos]
      · omega
      · rw [lsB, ← seeB_old o, h3.1, Bool.true_and, ltB_true]
        show nxA c k < fiA (tickT s) k
        omega
    · exact h2.1
  · rw [loQ_ok F2.ck]; exact (lsT_rng F2).2
  · rw [loQ_ok F.ck, loQ_ok F2.ck, wtW_ok F.ck, wtW_ok F2.ck, both_sum F, both_sum F2, ti_nG hn h hp]
    refine sumI_eq fun k hk => ?_
    rw [seeB_old o, (ti_nxR hn h hp hk).1]
  · rw [wtW_ok F.ck]; exact wtR_len h
  · rw [wtW_ok F2.ck]; exact wtR_len F2.st
theorem grows_fun : FunOK cLaw4 300 Try.f3 sLaw4 := fun n hn ns hns at_ ha l hl _ => by
  obtain ⟨s, o, M⟩ := made_at n.int ns.list at_.int
  have F := fits_new M.old M.st l.int
  have ck := F.ck
  have h8 := (ck_ok ck).le8
  obtain ⟨c, hc⟩ : ∃ c, c = newQ o l.int := ⟨_, rfl⟩
  have hcl : cl c = l.int := by rw [hc]; exact (newQ_nx M.old.st).1
  rw [← hc] at F ck
  refine ⟨fun h1 => absurd h1 (neT M.ne), fun h1 => ⟨M.iS, M.iO, fun h2 => absurd h2 ?_, fun h2 => ?_⟩⟩
  · show ¬ (stE ((mdL n.int ns.list).getD (atI (mdL n.int ns.list) at_.int) .Z) != 0 || ckE ((mdL n.int ns.list).getD (lastI (mdL n.int ns.list)) .Z) (newQ ((mdL n.int ns.list).getD (atI (mdL n.int ns.list) at_.int) .Z) l.int) != 0 || ckE ((mdL n.int ns.list).getD (lastI (mdL n.int ns.list)) .Z) (newQ ((mdL n.int ns.list).getD (atI (mdL n.int ns.list) at_.int) .Z) l.int) != 0) = true
    rw [M.eS, M.eO, ← hc, ck, M.old.st]; decide
  clear h1 h2
  refine ⟨{ i : Nat // i ≤ nG s }, 2, fun i => ([(17, .dat i64 (.I i.1)), (15, .dat u64 (.I (loQ s c))), (13, .dat (.slice storedS) (.L (wtW s c))), (11, .ptr 1 cursorS [] cursorS), (10, .ptr 0 storeS [] storeS), (3, .dat u64 (.I l.int))],
    [(1, .box cursorS (.dat cursorS c)), (0, .box storeS (.dat storeS s))]), fun i => nG s - i.1,
    ⟨0, Nat.zero_le _⟩, ⟨[], rfl, ⟨rfl, slot (grow_lo M hc), slotD (grow_wt M hc), rfl, rfl, rfl, trivial⟩, ⟨bx (grow_c M hc), bx M.eS, trivial⟩⟩, ?_⟩
  intro z
  obtain ⟨i, hi⟩ := z
  have hN := M.nn
  refine ⟨fun h1 => ?_, fun h1 => ?_⟩
  · have hlt : i < nG s := ltN h1
    clear h1
    refine ⟨ix hlt, by kernel_rfl, fun h2 => ?_, fun h2 => ⟨ix hlt, fun h3 => ⟨?_, ?_, by kernel_rfl, fun h4 => absurd h4 ?_, fun h4 => ?_⟩, fun h3 => ⟨fun h4 => absurd h4 ?_, fun h4 => ?_⟩⟩⟩
    · exact ⟨⟨i + 1, hlt⟩, ⟨[], rfl, ⟨slot (i64_1 (n := i) (by omega)), rfl, rfl, rfl, rfl, rfl, trivial⟩, ⟨rfl, rfl, trivial⟩⟩, stepLt hlt⟩
    all_goals replace h2 : (putTE s (evG s i) != 0) = false := h2
    all_goals have G := grow_put F hN hlt (bneF h2)
    all_goals replace h3 : seeB s l.int i = _ := h3
    all_goals rw [hcl, h3] at G
    · show 0 + (wtW s c).length ≤ 1073741824
      have := wtR_len (c := c) M.st
      rw [wtW_ok ck]; omega
    · show ([] ++ wtW s c).length + 1 ≤ 1073741824
      have := wtR_len (c := c) M.st
      rw [List.nil_append, wtW_ok ck]; omega
    · show ¬ (ckE (putT s (evG s i)) c != 0 || !sameL storedS (wtW (putT s (evG s i)) c) ([] ++ wtW s c ++ [putX s (evG s i)])) = true
      rw [G.1, G.2, List.nil_append, if_pos rfl, sameL_rfl eqStored]; decide
    · exact ⟨⟨i + 1, hlt⟩, ⟨[], rfl, ⟨slot (i64_1 (n := i) (by omega)), rfl, rfl, rfl, rfl, rfl, trivial⟩, ⟨rfl, rfl, trivial⟩⟩, stepLt hlt⟩
    · show ¬ (ckE (putT s (evG s i)) c != 0 || !sameL storedS (wtW (putT s (evG s i)) c) (wtW s c)) = true
      rw [G.1, G.2, if_neg (by decide), List.append_nil, sameL_rfl eqStored]; decide
    · exact ⟨⟨i + 1, hlt⟩, ⟨[], rfl, ⟨slot (i64_1 (n := i) (by omega)), rfl, rfl, rfl, rfl, rfl, trivial⟩, ⟨rfl, rfl, trivial⟩⟩, stepLt hlt⟩
  · refine ⟨fun h2 => Bears.bool rfl, fun h2 => Bears.bool ?_⟩
    replace h2 : (tickE s != 0) = false := h2
    obtain ⟨k1, k2, k3, k4, k5, k6, k7⟩ := grow_tick F hN (bneF h2)
    show (ckE (tickT s) c == 0 && ckE (tickT s) c == 0 && leB (loQ s c) (loQ (tickT s) c) && IntKind.u64.wrap ((wtW s c).length : Int) == IntKind.u64.wrap (IntKind.u64.wrap (IntKind.u64.wrap ((wtW (tickT s) c).length : Int) + loQ (tickT s) c) - loQ s c) && true) = true
    rw [k1, show leB (loQ s c) (loQ (tickT s) c) = true by rw [leB_true]; exact k3, wrap_u64 (n := ((wtW s c).length : Int)) (by omega) (by omega), wrap_u64 (n := ((wtW (tickT s) c).length : Int)) (by omega) (by omega), wrap_u64 (n := ((wtW (tickT s) c).length : Int) + loQ (tickT s) c) (by omega) (by omega), wrap_u64 (by omega) (by omega)]
    simp only [beq_self_eq_true, Bool.true_and, Bool.and_true, beq_iff_eq]
    omega
theorem grows_ok : SumOK Try.prog 3 sLaw4 := sumOK_of_vc (c := cLaw4) cLaw4_ok mixed Try.func3 rfl (by decide) @grows_fun
end Go.Proofs.Ytmdhmjidmiemmaa
