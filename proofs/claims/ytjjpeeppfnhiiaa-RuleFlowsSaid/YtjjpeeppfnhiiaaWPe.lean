/- Accounts of rules: to which labels a label can come. -/
import Derived.Test.YtjjpeeppfnhiiaaWPt
namespace Go.Proofs.Ytjjpeeppfnhiiaa
open Go Go.Vm
set_option linter.unusedSimpArgs false
set_option linter.unusedVariables false
set_option maxRecDepth 10000
def mpsF : List (Nat × MI) := [(73, .map u64 .bool)]
def flowL (l : D) (x : Int) : List D := if listF l = 0 then nums (flowI l.list x) else []
def sFlows : Sum := ⟨[.slice ruleS, u64], fun _ => none, fun
  | [l, x] => .tup [.dat (.slice u64) (.L (flowL l x.int)), .dat i64 (.I (listF l))]
  | _ => .und⟩
def cFl : Ctx := ⟨tabK, [], [(28, sList), (40, sBelow)], [], keep, (48 + 1000000, .msum mSort) :: mpsF⟩
theorem flows_fun : FunOK cFl 100 Try.f23 sFlows := fun l hl x hx _ => by
  refine ⟨0, { R : List Int // Good l.list x.int R ∧ listF l = 0 }, 2, fun R => ([(7, .mp 1 u64 .bool), (0, .dat (.slice ruleS) l)], [(1, .map u64 .bool (ents R.1))]), fun R => newN l.list R.1, ?_, ?_⟩
  · refine ⟨fun h1 => ⟨Bears.same (eqSame ?_), Bears.int rfl, trivial⟩, fun h1 => ?_⟩
    · replace h1 : (listF l != 0) = true := h1
      show D.L [] = D.L (flowL l x.int)
      rw [flowL, if_neg (by simpa using h1)]
    · replace h1 : (listF l != 0) = false := h1
      obtain ⟨R, hRe⟩ : ∃ R, R = [x.int] := ⟨_, rfl⟩
      have hR : Good l.list x.int R := hRe ▸ good_one _ _
      have hl0 : listF l = 0 := by simpa using h1
      have hl8 : l.list.length ≤ 8 := by
        have h1 := hl0
        rw [listF] at h1
        split at h1
        · cases h1
        · omega
      have hlen := hR.len
      refine ⟨{ i : Nat // i ≤ l.list.length ∧ ∀ k, k < i → okR R (l.list.getD k .Z) = false }, 2, fun i => ([(23, .dat i64 (.I i.1)), (22, .dat i64 (.I l.list.length)), (21, .dat (.slice ruleS) l), (7, .mp 1 u64 .bool), (0, .dat (.slice ruleS) l)], [(1, .map u64 .bool (ents R))]), fun i => l.list.length - i.1,
        ⟨0, by omega, fun k h => by omega⟩, ⟨[], rfl, ⟨rfl, rfl, rfl, rfl, rfl, trivial⟩, ⟨by first | rfl | (rw [hRe]; rfl), trivial⟩⟩, ?_⟩
      intro z
      obtain ⟨i, hi, h0⟩ := z
      refine ⟨fun h1 => ⟨ix (ltN h1), ?_⟩, fun h1 => ?_⟩
      · have hlt := ltN h1
        obtain ⟨r, hr⟩ : ∃ r, r = l.list.getD i .Z := ⟨_, rfl⟩
        have hrm : r ∈ l.list := by
          rw [hr, List.getD_eq_getElem?_getD, List.getElem?_eq_getElem hlt]; exact List.getElem_mem hlt
        refine ⟨{ s : List Nat // SeenI R.length s ∧ ∀ k, k ∈ s → (belowB (R.getD k 0) (rA r) && !R.contains (rR r)) = false }, 4, fun s => ([(28, .mit 3), (9, .ptr 2 ruleS [] ruleS), (23, .dat i64 (.I i)), (22, .dat i64 (.I l.list.length)), (21, .dat (.slice ruleS) l), (7, .mp 1 u64 .bool), (0, .dat (.slice ruleS) l)],
          [(3, .iter 1 (ents R).length (ents R).length s.1), (2, .box ruleS (.dat ruleS r)), (1, .map u64 .bool (ents R))]), fun s => leftN R.length s.1,
          ⟨[], .nil, fun _ h => by cases h⟩, ⟨[], rfl, ⟨rfl, rfl, rfl, rfl, rfl, rfl, rfl, trivial⟩, ⟨rfl, bx hr.symm, rfl, trivial⟩⟩, ?_⟩
        intro y
        obtain ⟨s, hs, hs0⟩ := y
        refine ⟨fun k h1 h2 => ⟨fun _ => ⟨⟨rfl, h1⟩, fun h4 => ⟨rfl, ?_⟩, fun h4 => ?_⟩, fun h3 => (by cases h3)⟩, fun hall => ⟨fun h3 => (by cases h3), fun _ => ?_⟩⟩
        · have hk : k < R.length := by rw [ents_len] at h1; exact h1
          replace h4 : (belowB ((ents R).getD k (.Z, .Z)).1.int (rA r) && !(mGet (D0 .bool) (rR r) (ents R)).bool) = true := h4
          rw [ents_at R k hk, ents_get, D.int_I, Bool.and_eq_true, Bool.not_eq_true'] at h4
          have hok : okR R r = true := by
            rw [okR, h4.2, Bool.not_false, Bool.and_true, List.any_eq_true]
            exact ⟨R.getD k 0, by rw [List.getD_eq_getElem?_getD, List.getElem?_eq_getElem hk]; exact List.getElem_mem hk, h4.1⟩
          have hg : Good l.list x.int (R ++ [rR r]) := good_step hR hrm hok
          have hm : some (VO.map u64 .bool (mPut (.I (rR r)) (.B true) (ents R))) = some (VO.map u64 .bool (ents (R ++ [rR r]))) := by rw [ents_put h4.2]
          have hlt2 := newN_lt hrm h4.2
          first
            | exact ⟨⟨R ++ [rR r], hg, hl0⟩, ⟨[], rfl, ⟨rfl, rfl, trivial⟩, ⟨hm, trivial⟩⟩, hlt2⟩
            | exact ⟨⟨R ++ [rR r], hg, hl0⟩, ⟨[], rfl, ⟨rfl, rfl, trivial⟩, ⟨hm, trivial⟩⟩⟩
        · have hk : k < R.length := by rw [ents_len] at h1; exact h1
          replace h4 : (belowB ((ents R).getD k (.Z, .Z)).1.int (rA r) && !(mGet (D0 .bool) (rR r) (ents R)).bool) = false := h4
          rw [ents_at R k hk, ents_get, D.int_I] at h4
          refine ⟨⟨k :: s, hs.add hk h2, fun j hj => ?_⟩, ⟨[], rfl, ⟨rfl, rfl, rfl, rfl, rfl, rfl, rfl, trivial⟩, ⟨rfl, rfl, rfl, trivial⟩⟩, leftN_lt hk h2⟩
          rcases List.mem_cons.1 hj with e | hj
          · subst e; exact h4
          · exact hs0 j hj
        · have hnot : okR R r = false := by
            rw [Bool.eq_false_iff, ne_eq, okR_iff]
            rintro ⟨⟨y, hy, hb⟩, hn⟩
            obtain ⟨k, hk, rfl⟩ := List.getElem_of_mem hy
            have := hs0 k (hall k (by rw [ents_len]; exact hk) (by rw [ents_len]; exact hk))
            rw [List.getD_eq_getElem?_getD, List.getElem?_eq_getElem hk, Option.getD_some, hb, Bool.true_and, Bool.not_eq_false', List.contains_eq_mem, decide_eq_true_eq] at this
            exact hn this
          exact ⟨⟨i + 1, hlt, upto h0 (hr ▸ hnot)⟩, ⟨[], rfl, ⟨slot (i64_1 (n := i) (by omega)), rfl, rfl, rfl, rfl, trivial⟩, ⟨rfl, trivial⟩⟩, Nat.sub_lt_sub_left hlt (Nat.lt_succ_self i)⟩
      · have hend : i = l.list.length := geN hi h1
        have hcl : Closed l.list R := fun r hr => by
          obtain ⟨k, hk, rfl⟩ := List.getElem_of_mem hr
          have := h0 k (by omega)
          rwa [List.getD_eq_getElem?_getD, List.getElem?_eq_getElem hk] at this
        refine ⟨{ s : List Nat // SeenI R.length s }, 5, fun s => ([(49, .mit 3), (11, .own 4 u64), (7, .mp 1 u64 .bool)],
          [(3, .iter 1 (ents R).length (ents R).length s.1), (4, .grow u64 (s.1.reverse.map fun k => .I (R.getD k 0))), (1, .map u64 .bool (ents R))]), fun s => leftN R.length s.1,
          ⟨[], .nil⟩, ⟨[(4, 2)], rfl, ⟨rfl, rfl, rfl, trivial⟩, ⟨rfl, rfl, rfl, trivial⟩⟩, ?_⟩
        intro y
        obtain ⟨s, hs⟩ := y
        refine ⟨fun k h1 h2 => ⟨fun _ => ⟨⟨rfl, h1⟩, ?_, ?_⟩, fun h3 => (by cases h3)⟩, fun hall => ⟨fun h3 => (by cases h3), fun _ => ⟨?_, Bears.same (eqSame ?_), Bears.int hl0.symm, trivial⟩⟩⟩
        · have := hs.len
          show (s.reverse.map fun k => D.I (R.getD k 0)).length + 1 ≤ 1073741824
          rw [List.length_map, List.length_reverse]; omega
        · have hk : k < R.length := by rw [ents_len] at h1; exact h1
          refine ⟨⟨k :: s, hs.add hk h2⟩, ⟨[(4, 6)], rfl, ⟨rfl, rfl, rfl, trivial⟩, ⟨rfl, gro ?_, rfl, trivial⟩⟩, leftN_lt hk h2⟩
          show (s.reverse.map fun k => D.I (R.getD k 0)) ++ [D.I ((ents R).getD k (.Z, .Z)).1.int] = ((k :: s).reverse.map fun k => D.I (R.getD k 0))
          rw [ents_at R k hk, List.reverse_cons, List.map_append]; rfl
        · have := hs.len
          show (s.reverse.map fun k => D.I (R.getD k 0)).length ≤ 12
          rw [List.length_map, List.length_reverse]; omega
        · show D.L (sortD (s.reverse.map fun k => D.I (R.getD k 0))) = D.L (flowL l x.int)
          rw [flowL, if_pos hl0, sortD]
          congr 2
          have e : ints (s.reverse.map fun k => D.I (R.getD k 0)) = s.reverse.map fun k => R.getD k 0 := by
            rw [ints, List.map_map]; rfl
          rw [e]
          refine flow_eq hR hcl ?_
          refine List.Perm.trans ?_ (hs.perm fun k hk => hall k (by rw [ents_len]; exact hk) (by rw [ents_len]; exact hk))
          exact (List.reverse_perm s).map _
  · intro X
    obtain ⟨R, hR, hl0⟩ := X
    have hl8 : l.list.length ≤ 8 := by
      have h1 := hl0
      rw [listF] at h1
      split at h1
      · cases h1
      · omega
    have hlen := hR.len
    refine ⟨{ i : Nat // i ≤ l.list.length ∧ ∀ k, k < i → okR R (l.list.getD k .Z) = false }, 2, fun i => ([(23, .dat i64 (.I i.1)), (22, .dat i64 (.I l.list.length)), (21, .dat (.slice ruleS) l), (7, .mp 1 u64 .bool), (0, .dat (.slice ruleS) l)], [(1, .map u64 .bool (ents R))]), fun i => l.list.length - i.1,
      ⟨0, by omega, fun k h => by omega⟩, ⟨[], rfl, ⟨rfl, rfl, rfl, rfl, rfl, trivial⟩, ⟨by first | rfl | (rw [hRe]; rfl), trivial⟩⟩, ?_⟩
    intro z
    obtain ⟨i, hi, h0⟩ := z
    refine ⟨fun h1 => ⟨ix (ltN h1), ?_⟩, fun h1 => ?_⟩
    · have hlt := ltN h1
      obtain ⟨r, hr⟩ : ∃ r, r = l.list.getD i .Z := ⟨_, rfl⟩
      have hrm : r ∈ l.list := by
        rw [hr, List.getD_eq_getElem?_getD, List.getElem?_eq_getElem hlt]; exact List.getElem_mem hlt
      refine ⟨{ s : List Nat // SeenI R.length s ∧ ∀ k, k ∈ s → (belowB (R.getD k 0) (rA r) && !R.contains (rR r)) = false }, 4, fun s => ([(28, .mit 3), (9, .ptr 2 ruleS [] ruleS), (23, .dat i64 (.I i)), (22, .dat i64 (.I l.list.length)), (21, .dat (.slice ruleS) l), (7, .mp 1 u64 .bool), (0, .dat (.slice ruleS) l)],
        [(3, .iter 1 (ents R).length (ents R).length s.1), (2, .box ruleS (.dat ruleS r)), (1, .map u64 .bool (ents R))]), fun s => leftN R.length s.1,
        ⟨[], .nil, fun _ h => by cases h⟩, ⟨[], rfl, ⟨rfl, rfl, rfl, rfl, rfl, rfl, rfl, trivial⟩, ⟨rfl, bx hr.symm, rfl, trivial⟩⟩, ?_⟩
      intro y
      obtain ⟨s, hs, hs0⟩ := y
      refine ⟨fun k h1 h2 => ⟨fun _ => ⟨⟨rfl, h1⟩, fun h4 => ⟨rfl, ?_⟩, fun h4 => ?_⟩, fun h3 => (by cases h3)⟩, fun hall => ⟨fun h3 => (by cases h3), fun _ => ?_⟩⟩
      · have hk : k < R.length := by rw [ents_len] at h1; exact h1
        replace h4 : (belowB ((ents R).getD k (.Z, .Z)).1.int (rA r) && !(mGet (D0 .bool) (rR r) (ents R)).bool) = true := h4
        rw [ents_at R k hk, ents_get, D.int_I, Bool.and_eq_true, Bool.not_eq_true'] at h4
        have hok : okR R r = true := by
          rw [okR, h4.2, Bool.not_false, Bool.and_true, List.any_eq_true]
          exact ⟨R.getD k 0, by rw [List.getD_eq_getElem?_getD, List.getElem?_eq_getElem hk]; exact List.getElem_mem hk, h4.1⟩
        have hg : Good l.list x.int (R ++ [rR r]) := good_step hR hrm hok
        have hm : some (VO.map u64 .bool (mPut (.I (rR r)) (.B true) (ents R))) = some (VO.map u64 .bool (ents (R ++ [rR r]))) := by rw [ents_put h4.2]
        have hlt2 := newN_lt hrm h4.2
        first
          | exact ⟨⟨R ++ [rR r], hg, hl0⟩, ⟨[], rfl, ⟨rfl, rfl, trivial⟩, ⟨hm, trivial⟩⟩, hlt2⟩
          | exact ⟨⟨R ++ [rR r], hg, hl0⟩, ⟨[], rfl, ⟨rfl, rfl, trivial⟩, ⟨hm, trivial⟩⟩⟩
      · have hk : k < R.length := by rw [ents_len] at h1; exact h1
        replace h4 : (belowB ((ents R).getD k (.Z, .Z)).1.int (rA r) && !(mGet (D0 .bool) (rR r) (ents R)).bool) = false := h4
        rw [ents_at R k hk, ents_get, D.int_I] at h4
        refine ⟨⟨k :: s, hs.add hk h2, fun j hj => ?_⟩, ⟨[], rfl, ⟨rfl, rfl, rfl, rfl, rfl, rfl, rfl, trivial⟩, ⟨rfl, rfl, rfl, trivial⟩⟩, leftN_lt hk h2⟩
        rcases List.mem_cons.1 hj with e | hj
        · subst e; exact h4
        · exact hs0 j hj
      · have hnot : okR R r = false := by
          rw [Bool.eq_false_iff, ne_eq, okR_iff]
          rintro ⟨⟨y, hy, hb⟩, hn⟩
          obtain ⟨k, hk, rfl⟩ := List.getElem_of_mem hy
          have := hs0 k (hall k (by rw [ents_len]; exact hk) (by rw [ents_len]; exact hk))
          rw [List.getD_eq_getElem?_getD, List.getElem?_eq_getElem hk, Option.getD_some, hb, Bool.true_and, Bool.not_eq_false', List.contains_eq_mem, decide_eq_true_eq] at this
          exact hn this
        exact ⟨⟨i + 1, hlt, upto h0 (hr ▸ hnot)⟩, ⟨[], rfl, ⟨slot (i64_1 (n := i) (by omega)), rfl, rfl, rfl, rfl, trivial⟩, ⟨rfl, trivial⟩⟩, Nat.sub_lt_sub_left hlt (Nat.lt_succ_self i)⟩
    · have hend : i = l.list.length := geN hi h1
      have hcl : Closed l.list R := fun r hr => by
        obtain ⟨k, hk, rfl⟩ := List.getElem_of_mem hr
        have := h0 k (by omega)
        rwa [List.getD_eq_getElem?_getD, List.getElem?_eq_getElem hk] at this
      refine ⟨{ s : List Nat // SeenI R.length s }, 5, fun s => ([(49, .mit 3), (11, .own 4 u64), (7, .mp 1 u64 .bool)],
        [(3, .iter 1 (ents R).length (ents R).length s.1), (4, .grow u64 (s.1.reverse.map fun k => .I (R.getD k 0))), (1, .map u64 .bool (ents R))]), fun s => leftN R.length s.1,
        ⟨[], .nil⟩, ⟨[(4, 2)], rfl, ⟨rfl, rfl, rfl, trivial⟩, ⟨rfl, rfl, rfl, trivial⟩⟩, ?_⟩
      intro y
      obtain ⟨s, hs⟩ := y
      refine ⟨fun k h1 h2 => ⟨fun _ => ⟨⟨rfl, h1⟩, ?_, ?_⟩, fun h3 => (by cases h3)⟩, fun hall => ⟨fun h3 => (by cases h3), fun _ => ⟨?_, Bears.same (eqSame ?_), Bears.int hl0.symm, trivial⟩⟩⟩
      · have := hs.len
        show (s.reverse.map fun k => D.I (R.getD k 0)).length + 1 ≤ 1073741824
        rw [List.length_map, List.length_reverse]; omega
      · have hk : k < R.length := by rw [ents_len] at h1; exact h1
        refine ⟨⟨k :: s, hs.add hk h2⟩, ⟨[(4, 6)], rfl, ⟨rfl, rfl, rfl, trivial⟩, ⟨rfl, gro ?_, rfl, trivial⟩⟩, leftN_lt hk h2⟩
        show (s.reverse.map fun k => D.I (R.getD k 0)) ++ [D.I ((ents R).getD k (.Z, .Z)).1.int] = ((k :: s).reverse.map fun k => D.I (R.getD k 0))
        rw [ents_at R k hk, List.reverse_cons, List.map_append]; rfl
      · have := hs.len
        show (s.reverse.map fun k => D.I (R.getD k 0)).length ≤ 12
        rw [List.length_map, List.length_reverse]; omega
      · show D.L (sortD (s.reverse.map fun k => D.I (R.getD k 0))) = D.L (flowL l x.int)
        rw [flowL, if_pos hl0, sortD]
        congr 2
        have e : ints (s.reverse.map fun k => D.I (R.getD k 0)) = s.reverse.map fun k => R.getD k 0 := by
          rw [ints, List.map_map]; rfl
        rw [e]
        refine flow_eq hR hcl ?_
        refine List.Perm.trans ?_ (hs.perm fun k hk => hall k (by rw [ents_len]; exact hk) (by rw [ents_len]; exact hk))
        exact (List.reverse_perm s).map _
end Go.Proofs.Ytjjpeeppfnhiiaa
