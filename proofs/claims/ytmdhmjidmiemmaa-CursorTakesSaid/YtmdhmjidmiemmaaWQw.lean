/- Cursors: the law of CursorTakes. -/
import Derived.Test.YtmdhmjidmiemmaaWQr
namespace Go.Proofs.Ytmdhmjidmiemmaa
open Go Go.Vm Rg
set_option linter.unusedSimpArgs false
set_option linter.unusedVariables false
set_option maxRecDepth 10000
theorem skQ_o {L : List D} {a l : Int} {s o c : D} (M : MadeAt L a s o) (hc : c = newQ o l) : skQ (L.getD (lastI L) .Z) (newQ (L.getD (atI L a) .Z) l) = skQ s c := by rw [M.eO, M.eS, hc]
theorem wtW_o {L : List D} {a l : Int} {s o c : D} (M : MadeAt L a s o) (hc : c = newQ o l) : D.L (wtW (L.getD (lastI L) .Z) (skQ (L.getD (lastI L) .Z) (newQ (L.getD (atI L a) .Z) l))) = D.L (wtW s (skQ s c)) := by rw [M.eO, M.eS, hc]
def tkCond (S O C : D) : Bool := stE O != 0 || ckE S C != 0 || ckE S C != 0 || ckE S (skQ S C) != 0 || ckE S (skQ S C) != 0 || loQ S (skQ S C) != 0 || !sameL storedS (wtW S C) (wtW S (skQ S C)) || ltB 512 ((wtW S (skQ S C)).length : Int)
theorem takes_fun : FunOK cLaw4 300 Try.f7 sLaw4 := fun n hn ns hns at_ ha l hl _ => by
  obtain ⟨s, o, M⟩ := made_at n.int ns.list at_.int
  have F := fits_new M.old M.st l.int
  obtain ⟨c, hc⟩ : ∃ c, c = newQ o l.int := ⟨_, rfl⟩
  have hcl : cl c = l.int := by rw [hc]; exact (newQ_nx M.old.st).1
  rw [← hc] at F
  have F1 := sk_fits F
  have z1 := sk_none F
  have w1 := sk_wt F
  refine ⟨fun h1 => absurd h1 (neT M.ne), fun h1 => ⟨M.iS, M.iO, fun h2 => absurd h2 ?_, fun h2 => ?_⟩⟩
  · show ¬ tkCond ((mdL n.int ns.list).getD (lastI (mdL n.int ns.list)) .Z) ((mdL n.int ns.list).getD (atI (mdL n.int ns.list) at_.int) .Z) (newQ ((mdL n.int ns.list).getD (atI (mdL n.int ns.list) at_.int) .Z) l.int) = true
    have h3 := wtR_len (c := c) M.st
    rw [M.eS, M.eO, ← hc, tkCond, M.old.st, F.ck, F1.ck, loQ_ok F1.ck, lsT_zero z1, wtW_ok F.ck, wtW_ok F1.ck, w1, sameL_rfl eqStored, show ltB 512 ((wtR s c).length : Int) = false by rw [ltB_false]; omega]
    decide
  clear h1 h2
  refine ⟨{ k : Nat // k ≤ (wtR s c).length }, 2, fun k => ([(21, .dat i64 (.I k.1)), (19, .dat (.slice storedS) (.L (wtW s (skQ s c)))), (11, .ptr 1 cursorS [] cursorS), (10, .ptr 0 storeS [] storeS), (3, .dat u64 (.I l.int))],
    [(1, .box cursorS (.dat cursorS (tkN s (skQ s c) k.1))), (0, .box storeS (.dat storeS s))]), fun k => (wtR s c).length - k.1,
    ⟨0, Nat.zero_le _⟩, ⟨[], rfl, ⟨rfl, slotD (wtW_o M hc), rfl, rfl, rfl, trivial⟩, ⟨bx (skQ_o M hc), bx M.eS, trivial⟩⟩, ?_⟩
  intro z
  obtain ⟨k, hk⟩ := z
  obtain ⟨Fk, zk, wk, ck⟩ := tkN_inv F1 z1 (k := k) (by rw [w1]; exact hk)
  have eW : wtW s (skQ s c) = wtR s c := by rw [wtW_ok F1.ck, w1]
  have h512 := wtR_len (c := c) M.st
  refine ⟨fun h1 => ?_, fun h1 => Bears.bool ?_⟩
  · replace h1 : ltB (k : Int) ((wtW s (skQ s c)).length : Int) = true := h1
    rw [eW] at h1
    have hlt : k < (wtR s c).length := ltN h1
    clear h1
    have hne : wtR s (tkN s (skQ s c) k) ≠ [] := by
      rw [wk, w1]; intro h
      have := congrArg List.length h
      rw [List.length_drop, List.length_nil] at this; omega
    have eP := pkE_0 Fk.ck hne
    have eT := tk_e Fk zk hne
    have e0 : (wtR s (tkN s (skQ s c) k)).getD 0 .Z = (wtR s c).getD k .Z := by
      rw [wk, w1, List.getD_eq_getElem?_getD, List.getD_eq_getElem?_getD, List.getElem?_drop, Nat.add_zero]
    have hin : 0 ≤ (k : Int) ∧ (k : Int) < ((wtW s (skQ s c)).length : Int) := by rw [eW]; omega
    refine ⟨fun _ => ⟨hin.1, hin.2⟩, by kernel_rfl, fun h2 => absurd h2 ?_, fun h2 => ?_⟩
    · show ¬ (pkE s (tkN s (skQ s c) k) != 0 || tkE s (tkN s (skQ s c) k) != 0 || !eqD storedS (pkX s (tkN s (skQ s c) k)) ((wtW s (skQ s c)).getD k .Z) || !eqD storedS (tkX s (tkN s (skQ s c) k)) (pkX s (tkN s (skQ s c) k))) = true
      rw [pkX, tkX, eP, eT, eW, if_neg (by decide), e0, eqStored]; decide
    · exact ⟨⟨k + 1, hlt⟩, ⟨[], rfl, ⟨slot (i64_1 (n := k) (by omega)), rfl, rfl, rfl, rfl, trivial⟩, ⟨rfl, rfl, trivial⟩⟩, stepLt hlt⟩
  · replace h1 : ltB (k : Int) ((wtW s (skQ s c)).length : Int) = false := h1
    rw [eW] at h1
    have e : k = (wtR s c).length := geN hk h1
    have hn : wtR s (tkN s (skQ s c) k) = [] := by rw [wk, w1, e, List.drop_length]
    show (tkE s (tkN s (skQ s c) k) == 7 && stE s == 0 && sameC (tkN s (skQ s c) k) (newQ s l.int) && ckE s (tkN s (skQ s c) k) == 0 && !wkQ s (tkN s (skQ s c) k) && true) = true
    have hS := end_same Fk zk hn
    rw [ck, (sk_nx F).1, hcl] at hS
    have hW : wkQ s (tkN s (skQ s c) k) = false := by rw [wkQ, if_neg (by simp [Fk.ck]), hn, lsT_zero zk]; rfl
    rw [tkE_7 Fk.ck (by rw [lsT_zero zk]; rfl) hn, M.st, hS, Fk.ck, hW]; rfl
theorem takes_ok : SumOK Try.prog 7 sLaw4 := sumOK_of_vc (c := cLaw4) cLaw4_ok mixed Try.func7 rfl (by decide) @takes_fun
end Go.Proofs.Ytmdhmjidmiemmaa
