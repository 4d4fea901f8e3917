/- Cursors: the law of CursorBlind. -/
import Derived.Test.YtmdhmjidmiemmaaWQs
namespace Go.Proofs.Ytmdhmjidmiemmaa
open Go Go.Vm Rg
set_option linter.unusedSimpArgs false
set_option linter.unusedVariables false
set_option maxRecDepth 10000
def blC1 (S O : D) : Bool := stE S != 0 || stE O != 0
def blC2 (S O : D) (l : Int) : Bool := stE O != 0 || stE (belT O l) != 0 || ckE S (newQ O l) != 0 || ckE (belT S l) (newQ (belT O l) l) != 0 || !sameL storedS (wtW S (newQ O l)) (wtW (belT S l) (newQ (belT O l) l))
def seenQ (s o : D) (l : Int) (i : Nat) : List D := (seL s l i).map fun k => D.I ((nx (tkC s (newQ o l))).getD k .Z).int
theorem seenQ_yes {s o : D} {l : Int} {i : Nat} (h : seeB s l i = true) : seenQ s o l i ++ [D.I ((nx (tkC s (newQ o l))).getD i .Z).int] = seenQ s o l (i + 1) := by
  rw [seenQ, seenQ, seL, seL, List.range_succ, List.filter_append, List.map_append, List.filter_cons_of_pos h]; simp
theorem seenQ_no {s o : D} {l : Int} {i : Nat} (h : seeB s l i = false) : seenQ s o l i = seenQ s o l (i + 1) := by
  rw [seenQ, seenQ, seL, seL, List.range_succ, List.filter_append, List.map_append, List.filter_cons_of_neg (by rw [h]; decide)]; simp
theorem seenQ_len {s o : D} {l : Int} {i : Nat} : (seenQ s o l i).length ≤ i := by
  rw [seenQ, List.length_map, seL]; exact Nat.le_trans (List.length_filter_le _ _) (by simp)
section
variable {S O s o : D} (eS : S = s) (eO : O = o) (M : OldS o s) (h : stE s = 0) (l : Int)
include eS eO M h
theorem bq_tE2 : tkE (belT S l) (newQ (belT O l) l) = tkE s (newQ o l) := by subst eS eO; exact bl_tkE M h l
theorem bq_tE : tkE S (newQ O l) = tkE s (newQ o l) := by subst eS eO; rfl
theorem bq_ck2 : ckE (belT S l) (newQ (belT O l) l) = 0 := by subst eS eO; exact (fits_new (old_below M h l) (be_right h l) l).ck
theorem bq_ck : ckE S (newQ O l) = 0 := by subst eS eO; exact (fits_new M h l).ck
theorem bq_lo2 : loQ (belT S l) (newQ (belT O l) l) = loQ s (newQ o l) := by
  subst eS eO
  rw [loQ_ok (fits_new (old_below M h l) (be_right h l) l).ck, loQ_ok (fits_new M h l).ck, bl_ls M h l]
theorem bq_lo : loQ S (newQ O l) = loQ s (newQ o l) := by subst eS eO; rfl
theorem bq_tX2 : tkX (belT S l) (newQ (belT O l) l) = tkX s (newQ o l) := by subst eS eO; exact bl_tkX M h l
theorem bq_tX : tkX S (newQ O l) = tkX s (newQ o l) := by subst eS eO; rfl
theorem bq_tC2 : tkC (belT S l) (newQ (belT O l) l) = tkC (belT s l) (newQ (belT o l) l) := by subst eS eO; rfl
theorem bq_tC : tkC S (newQ O l) = tkC s (newQ o l) := by subst eS eO; rfl
end
set_option maxHeartbeats 4000000 in
theorem blind_fun : FunOK cLaw4 300 Try.f5 sLaw4 := fun n hn ns hns at_ ha l hl _ => by
  obtain ⟨s, o, M⟩ := made_at n.int ns.list at_.int
  have F := fits_new M.old M.st l.int
  have O2 := old_below M.old M.st l.int
  have r2 := be_right M.st l.int
  have F2 := fits_new O2 r2 l.int
  have h8 := (ck_ok F.ck).le8
  have eS := M.eS
  have eO := M.eO
  refine ⟨fun h1 => absurd h1 (neT M.ne), fun h1 => ⟨M.iS, M.iO, by kernel_rfl, fun h2 => absurd h2 ?_, fun h2 => ⟨fun h3 => absurd h3 ?_, fun h3 => ?_⟩⟩⟩
  · show ¬ blC1 ((mdL n.int ns.list).getD (lastI (mdL n.int ns.list)) .Z) ((mdL n.int ns.list).getD (atI (mdL n.int ns.list) at_.int) .Z) = true
    rw [eS, eO, blC1, M.st, M.old.st]; decide
  · show ¬ blC2 ((mdL n.int ns.list).getD (lastI (mdL n.int ns.list)) .Z) ((mdL n.int ns.list).getD (atI (mdL n.int ns.list) at_.int) .Z) l.int = true
    rw [eS, eO, blC2, M.old.st, O2.st, F.ck, F2.ck, wtW_ok F.ck, wtW_ok F2.ck, bl_wt M.old M.st, sameL_rfl eqStored]; decide
  clear h1 h2 h3
  refine ⟨{ i : Nat // i ≤ min (nx (tkC s (newQ o l.int))).length (nG s) }, 44, fun i => ([(29, .dat i64 (.I i.1)), (28, .own 43 u64), (21, .dat i64 (.I (tkE s (newQ o l.int)))), (27, .ptr 41 storedS [] storedS), (26, .ptr 40 cursorS [] cursorS), (19, .dat i64 (.I (tkE s (newQ o l.int)))), (25, .ptr 39 storedS [] storedS), (24, .ptr 38 cursorS [] cursorS), (15, .dat i64 (.I 0)), (23, .dat u64 (.I (loQ s (newQ o l.int)))), (13, .dat i64 (.I 0)), (22, .dat u64 (.I (loQ s (newQ o l.int)))), (10, .ptr 26 storeS [] storeS), (3, .dat u64 (.I l.int))],
    [(43, .grow u64 (seenQ s o l.int i.1)), (41, .box storedS (.dat storedS (tkX s (newQ o l.int)))), (40, .box cursorS (.dat cursorS (tkC (belT s l.int) (newQ (belT o l.int) l.int)))), (39, .box storedS (.dat storedS (tkX s (newQ o l.int)))), (38, .box cursorS (.dat cursorS (tkC s (newQ o l.int)))), (26, .box storeS (.dat storeS s))]), fun i => min (nx (tkC s (newQ o l.int))).length (nG s) - i.1,
    ⟨0, Nat.zero_le _⟩, ⟨[(43, 42)], rfl, ⟨rfl, rfl, slot (bq_tE2 eS eO M.old M.st l.int), rfl, rfl, slot (bq_tE eS eO M.old M.st l.int), rfl, rfl, slot (bq_ck2 eS eO M.old M.st l.int), slot (bq_lo2 eS eO M.old M.st l.int), slot (bq_ck eS eO M.old M.st l.int), slot (bq_lo eS eO M.old M.st l.int), rfl, rfl, trivial⟩, ⟨rfl, bx (bq_tX2 eS eO M.old M.st l.int), bx (bq_tC2 eS eO M.old M.st l.int), bx (bq_tX eS eO M.old M.st l.int), bx (bq_tC eS eO M.old M.st l.int), bx eS, trivial⟩⟩, ?_⟩
  intro z
  obtain ⟨i, hi⟩ := z
  refine ⟨fun h1 => ?_, fun h1 => Bears.bool ?_⟩
  · replace h1 : (ltB (i : Int) ((nx (tkC s (newQ o l.int))).length : Int) && ltB (i : Int) (nG s : Int)) = true := h1
    simp only [Bool.and_eq_true, ltB_true] at h1
    have hlt : i < min (nx (tkC s (newQ o l.int))).length (nG s) := by omega
    have hls := seenQ_len (s := s) (o := o) (l := l.int) (i := i)
    refine ⟨⟨Int.natCast_nonneg i, h1.2⟩, fun h2 => ⟨⟨Int.natCast_nonneg i, h1.1⟩, ?_, ?_⟩, fun h2 => ?_⟩
    all_goals try replace h2 : seeB s l.int i = _ := h2
    · show (seenQ s o l.int i).length + 1 ≤ 1073741824
      omega
    · exact ⟨⟨i + 1, hlt⟩, ⟨[(43, 45)], rfl, ⟨slot (i64_1 (n := i) (by omega)), rfl, rfl, rfl, rfl, rfl, rfl, rfl, rfl, rfl, rfl, rfl, rfl, rfl, trivial⟩, ⟨gro (seenQ_yes h2), rfl, rfl, rfl, rfl, rfl, trivial⟩⟩, stepLt hlt⟩
    · exact ⟨⟨i + 1, hlt⟩, ⟨[], rfl, ⟨slot (i64_1 (n := i) (by omega)), rfl, rfl, rfl, rfl, rfl, rfl, rfl, rfl, rfl, rfl, rfl, rfl, rfl, trivial⟩, ⟨gro (seenQ_no h2), rfl, rfl, rfl, rfl, rfl, trivial⟩⟩, stepLt hlt⟩
  · replace h1 : (ltB (i : Int) ((nx (tkC s (newQ o l.int))).length : Int) && ltB (i : Int) (nG s : Int)) = false := h1
    simp only [Bool.and_eq_false_iff, ltB_false] at h1
    have e : i = min (nx (tkC s (newQ o l.int))).length (nG s) := by omega
    show (true && true && loQ s (newQ o l.int) == loQ s (newQ o l.int) && tkE s (newQ o l.int) == tkE s (newQ o l.int) && eqD storedS (tkX s (newQ o l.int)) (tkX s (newQ o l.int)) && sameL u64 (seenQ s o l.int i) (nx (tkC (belT s l.int) (newQ (belT o l.int) l.int))) && true) = true
    have hT := bl_tkC M.old M.st l.int
    rw [← e] at hT
    rw [beq_self_eq_true, beq_self_eq_true, eqStored, seenQ, hT]; rfl
theorem blind_ok : SumOK Try.prog 5 sLaw4 := sumOK_of_vc (c := cLaw4) cLaw4_ok mixed Try.func5 rfl (by decide) @blind_fun
end Go.Proofs.Ytmdhmjidmiemmaa
