/- Contexts of the evaluator, put together. -/
import Derived.Test.YtpfpgjkbnjnjnaaWVnH
namespace Go.Vm
open Go

def SumsOK (P : Program) (l : List (Nat × Sum)) : Prop := ∀ f S, lk l f = some S → SumOK P f S
theorem SumsOK.nil {P : Program} : SumsOK P [] := fun _ _ h => by simp [lk] at h
theorem SumsOK.cons {P : Program} {l : List (Nat × Sum)} {f : Nat} {S : Sum} (h : SumOK P f S) (t : SumsOK P l) : SumsOK P ((f, S) :: l) := by
  intro f' S' h'
  rw [lk_cons] at h'
  split at h'
  · rename_i e; subst e; simp only [Option.some.injEq] at h'; subst h'; exact h
  · exact t _ _ h'

def FunsOK (P : Program) (l : List (Nat × Func)) : Prop := ∀ f F, lk l f = some F → P.funcs[f]? = some F ∧ F.body.isSome = true ∧ F.name ≠ "runtime.NumGoroutine"
theorem FunsOK.nil {P : Program} : FunsOK P [] := fun _ _ h => by simp [lk] at h
theorem FunsOK.cons {P : Program} {l : List (Nat × Func)} {f : Nat} {F : Func} (h1 : P.funcs[f]? = some F) (h2 : F.body.isSome = true) (h3 : F.name ≠ "runtime.NumGoroutine") (t : FunsOK P l) : FunsOK P ((f, F) :: l) := by
  intro f' S' h'
  rw [lk_cons] at h'
  split at h'
  · rename_i e; subst e; simp only [Option.some.injEq] at h'; subst h'; exact ⟨h1, h2, h3⟩
  · exact t _ _ h'

def tabB (P : Program) : List (Nat × Sh) → Bool
  | [] => true
  | (t, s) :: l => layB P s t && s.data && tabB P l
theorem tabB_ok {P : Program} : ∀ {l : List (Nat × Sh)}, tabB P l = true → ∀ t s, lk l t = some s → Lay P s t ∧ s.data = true
  | [], _, _, _, h => by simp [lk] at h
  | (t, s) :: l, hb, t', s', h => by
    simp only [tabB, Bool.and_eq_true] at hb
    rw [lk_cons] at h
    split at h
    · rename_i e; subst e; simp only [Option.some.injEq] at h; subst h; exact ⟨layB_ok hb.1.1, hb.1.2⟩
    · exact tabB_ok hb.2 _ _ h
def refsB (P : Program) : List (Nat × Value) → Bool
  | [] => true
  | (t, z) :: l => refB P t z && refsB P l
theorem refsB_ok {P : Program} : ∀ {l : List (Nat × Value)}, refsB P l = true → ∀ t z, lk l t = some z → RefLay P t z
  | [], _, _, _, h => by simp [lk] at h
  | (t, s) :: l, hb, t', s', h => by
    simp only [refsB, Bool.and_eq_true] at hb
    rw [lk_cons] at h
    split at h
    · rename_i e; subst e; simp only [Option.some.injEq] at h; subst h; exact refB_ok hb.1
    · exact refsB_ok hb.2 _ _ h

theorem argAll_imp : ∀ {ss : List Sh} {K K' : List D → Prop}, argAll ss (fun ds => K ds → K' ds) → argAll ss K → argAll ss K'
  | [], _, _, h, k => h k
  | _ :: _, _, _, h, k => fun d hd => argAll_imp (h d hd) (k d hd)
theorem argAll_mono : ∀ {ss : List Sh} {K K' : List D → Prop}, (∀ ds, K ds → K' ds) → argAll ss K → argAll ss K'
  | [], _, _, h, k => h _ k
  | _ :: _, _, _, h, k => fun d hd => argAll_mono (fun ds => h (d :: ds)) (k d hd)
/-- A function whose condition is known as an equation (which the kernel sees). -/
theorem FunOK.of_eq {c : Ctx} {fu : Nat} {F : Func} {S : Sum} (Q : List D → Prop) (h : argAll S.shs fun ds => (vcFun c fu F (zipDat S.shs ds) [] 0 fun hv hp _ => resOK hp hv (S.res ds)) = Q ds) (hq : argAll S.shs fun ds => holds (S.pre ds) → Q ds) : FunOK c fu F S :=
  argAll_imp (argAll_mono (fun ds (e : (vcFun c fu F (zipDat S.shs ds) [] 0 fun hv hp _ => resOK hp hv (S.res ds)) = Q ds) q p => e.mpr (q p)) h) hq
def mapB (P : Program) (t : Nat) : MI → Bool
  | .map ks vs => match P.underlying t with
    | some (.map k e) => layB P ks k && layB P vs e && vs.data
    | _ => false
  | .vec => match P.underlying t with
    | some (.slice e) => refB P e .nilFunc
    | _ => false
  | .msum _ => false
  | .osum _ => false
  | .psum _ => false
  | .flag _ => true
theorem mapB_ok {P : Program} {t : Nat} {m : MI} (h : mapB P t m = true) : MapOK P t m := by
  cases m
  case msum M => simp [mapB] at h
  case osum M => simp [mapB] at h
  case psum M => simp [mapB] at h
  case flag f => trivial
  all_goals simp only [mapB] at h
  all_goals split at h
  · rename_i k e hu
    simp only [Bool.and_eq_true] at h
    exact ⟨k, e, hu, layB_ok h.1.1, layB_ok h.1.2, h.2⟩
  · cases h
  · rename_i e hu
    exact ⟨e, _, hu, refB_ok h⟩
  · cases h
def mapsB (P : Program) : List (Nat × MI) → Bool
  | [] => true
  | (t, m) :: l => mapB P t m && mapsB P l
theorem mapsB_ok {P : Program} : ∀ {l : List (Nat × MI)}, mapsB P l = true → ∀ t m, lk l t = some m → MapOK P t m
  | [], _, _, _, h => by simp [lk] at h
  | (t, m) :: l, hb, t', m', h => by
    simp only [mapsB, Bool.and_eq_true] at hb
    rw [lk_cons] at h
    split at h
    · rename_i e; subst e; simp only [Option.some.injEq] at h; subst h; exact mapB_ok hb.1
    · exact mapsB_ok hb.2 _ _ h
theorem CtxOK.of {P : Program} {c : Ctx} (h1 : tabB P c.tab = true) (h2 : refsB P c.refs = true) (h3 : SumsOK P c.sums) (h4 : FunsOK P c.funs) (h5 : mapsB P c.maps = true := by rfl) : CtxOK P c := ⟨tabB_ok h1, refsB_ok h2, h3, mapsB_ok h5, h4⟩

@[simp] theorem D.int_I (n : Int) : (D.I n).int = n := rfl
@[simp] theorem D.bool_B (b : Bool) : (D.B b).bool = b := rfl
@[simp] theorem D.str_S (b : ByteArray) : (D.S b).str = b := rfl
@[simp] theorem D.list_L (l : List D) : (D.L l).list = l := rfl
@[simp] theorem D.nth_L (l : List D) (i : Nat) : (D.L l).nth i = l.getD i .Z := rfl
@[simp] theorem D.nth_F (f : Nat → D) (i : Nat) : (D.F f).nth i = f i := rfl
@[simp] theorem D.gets_nil (d : D) : d.gets [] = d := rfl
@[simp] theorem D.gets_fld (d : D) (i : Nat) (p : List PS) : d.gets (.fld i :: p) = (d.nth i).gets p := rfl
@[simp] theorem D.gets_idx (d : D) (i : Nat) (p : List PS) : d.gets (.idx i :: p) = (d.nth i).gets p := rfl

@[simp] theorem ltB_true (a b : Int) : (ltB a b = true) = (a < b) := by simp [ltB]
@[simp] theorem ltB_false (a b : Int) : (ltB a b = false) = (b ≤ a) := by simp [ltB]
@[simp] theorem leB_true (a b : Int) : (leB a b = true) = (a ≤ b) := by simp [leB]
@[simp] theorem leB_false (a b : Int) : (leB a b = false) = (b < a) := by simp [leB]

theorem ofNth_getD {n : Nat} (d : D) (i j : Nat) (v : D) (hj : j < n) : (ofNth n d i v)[j]?.getD .Z = if j = i then v else d.nth j := by
  have := ofNth_nth n d i j v hj
  simpa using this
@[simp] theorem D.puts_nil (s : Sh) (d v : D) : D.puts s d [] v = v := by cases s <;> rfl
theorem D.puts_fld {ss : List Sh} {i : Nat} {s : Sh} (h : ss[i]? = some s) (d v : D) (p : List PS) : D.puts (.struct ss) d (.fld i :: p) v = .L (ofNth ss.length d i (D.puts s (d.nth i) p v)) := by
  simp only [D.puts, Sh.step, h, D.putStep, D.getStep]
theorem D.puts_idx {n : Nat} {s : Sh} (i : Nat) (d v : D) (p : List PS) : D.puts (.arr n s) d (.idx i :: p) v = .F (fun j => if j = i then D.puts s (d.nth i) p v else d.nth j) := by
  simp only [D.puts, Sh.step, D.putStep, D.getStep]
  congr 1; funext j
  by_cases h : j = i
  · subst h; simp
  · have : Nat.beq j i = false := Bool.eq_false_iff.2 fun hh => h (Nat.eq_of_beq_eq_true hh)
    simp [this, h]

mutual
/-- Two data that a cell can't tell apart. -/
def Same : Sh → D → D → Prop
  | .int _, a, b => a.int = b.int
  | .bool, a, b => a.bool = b.bool
  | .str, a, b => a.str = b.str
  | .struct ss, a, b => Sames ss 0 a b
  | .arr n s, a, b => ∀ j, j < n → Same s (a.nth j) (b.nth j)
  | .slice s, a, b => a.list.length = b.list.length ∧ ∀ j, j < a.list.length → Same s (a.list.getD j .Z) (b.list.getD j .Z)
  | .ref, _, _ => True
def Sames : List Sh → Nat → D → D → Prop
  | [], _, _, _ => True
  | s :: ss, i, a, b => Same s (a.nth i) (b.nth i) ∧ Sames ss (i + 1) a b
end
mutual
theorem Same.rfl : ∀ {s : Sh} {d : D}, Same s d d
  | .int _, _ => by simp [Same]
  | .bool, _ => by simp [Same]
  | .str, _ => by simp [Same]
  | .struct ss, _ => by simp only [Same]; exact Sames.rfl
  | .arr n s, _ => by simp only [Same]; exact fun _ _ => Same.rfl
  | .slice s, _ => by simp only [Same, true_and]; exact fun _ _ => Same.rfl
  | .ref, _ => by simp [Same]
theorem Sames.rfl : ∀ {ss : List Sh} {i : Nat} {d : D}, Sames ss i d d
  | [], _, _ => by simp [Sames]
  | s :: ss, _, _ => by simp only [Sames]; exact ⟨Same.rfl, Sames.rfl⟩
end
mutual
theorem Same.symm : ∀ {s : Sh} {a b : D}, Same s a b → Same s b a
  | .int _, _, _, h => by simp only [Same] at h ⊢; exact h.symm
  | .bool, _, _, h => by simp only [Same] at h ⊢; exact h.symm
  | .str, _, _, h => by simp only [Same] at h ⊢; exact h.symm
  | .struct ss, _, _, h => by simp only [Same] at h ⊢; exact Sames.symm h
  | .arr n s, _, _, h => by simp only [Same] at h ⊢; exact fun j hj => Same.symm (h j hj)
  | .slice s, _, _, h => by simp only [Same] at h ⊢; exact ⟨h.1.symm, fun j hj => Same.symm (h.2 j (by rw [h.1]; exact hj))⟩
  | .ref, _, _, _ => by simp [Same]
theorem Sames.symm : ∀ {ss : List Sh} {i : Nat} {a b : D}, Sames ss i a b → Sames ss i b a
  | [], _, _, _, _ => by simp [Sames]
  | s :: ss, _, _, _, h => by simp only [Sames] at h ⊢; exact ⟨Same.symm h.1, Sames.symm h.2⟩
end
mutual
theorem Same.rel {g : Ghost} : ∀ {s : Sh} {a b : D} {vs : List Value}, Same s a b → Rel g s a vs → Rel g s b vs
  | .int _, _, _, _, h, r => by simp only [Same, Rel] at h r ⊢; rw [← h]; exact r
  | .bool, _, _, _, h, r => by simp only [Same, Rel] at h r ⊢; rw [← h]; exact r
  | .str, _, _, _, h, r => by simp only [Same, Rel] at h r ⊢; rw [← h]; exact r
  | .struct ss, _, _, _, h, r => by simp only [Same, Rel] at h r ⊢; exact Sames.rel h r
  | .arr n s, _, _, _, h, r => by simp only [Same, Rel] at h r ⊢; exact ⟨r.1, fun j hj => Same.rel (h j hj) (r.2 j hj)⟩
  | .slice s, a, b, _, h, r => by
    simp only [Same, Rel] at h r ⊢
    obtain ⟨p, cap, rfl, r⟩ := r
    refine ⟨p, cap, by rw [h.1], ?_⟩
    cases p with
    | none => exact ⟨List.length_eq_zero_iff.1 (by rw [← h.1, r.1]; rfl), r.2⟩
    | some p =>
      refine ⟨by rw [← h.1]; exact r.1, fun hc => ?_⟩
      obtain ⟨r1, cs, T, fr, r2, r3, r4⟩ := r.2 hc
      exact ⟨r1, cs, T, fr, r2, r3, fun j hj => Same.rel (h.2 j (by rw [h.1]; exact hj)) (r4 j (by rw [h.1]; exact hj))⟩
  | .ref, _, _, _, _, r => by simp [Rel] at r
theorem Sames.rel {g : Ghost} : ∀ {ss : List Sh} {i : Nat} {a b : D} {vs : List Value}, Sames ss i a b → Rels g ss i a vs → Rels g ss i b vs
  | [], _, _, _, _, _, r => by simp only [Rels] at r ⊢; exact r
  | s :: ss, _, _, _, _, h, r => by simp only [Sames, Rels] at h r ⊢; exact ⟨r.1, Same.rel h.1 r.2.1, Sames.rel h.2 r.2.2⟩
end
@[simp] theorem Same_int (k : IntKind) (a b : D) : Same (.int k) a b = (a.int = b.int) := by simp [Same]
@[simp] theorem Same_bool (a b : D) : Same .bool a b = (a.bool = b.bool) := by simp [Same]
@[simp] theorem Same_str (a b : D) : Same .str a b = (a.str = b.str) := by simp [Same]
@[simp] theorem Same_rfl (s : Sh) (a : D) : Same s a a = True := eq_true Same.rfl
theorem Bears.same {s : Sh} {d' d : D} (h : Same s d' d) : Bears s d' d := fun _ _ r => h.rel r

/-- A counter goes on. -/
theorem wrap_i64 {n : Int} (h1 : -9223372036854775808 ≤ n) (h2 : n ≤ 9223372036854775807) : IntKind.i64.wrap n = n := by
  simp only [IntKind.wrap, IntKind.signed, IntKind.bits]; simp; omega
theorem wrap_u64 {n : Int} (h1 : 0 ≤ n) (h2 : n ≤ 18446744073709551615) : IntKind.u64.wrap n = n := by
  simp only [IntKind.wrap, IntKind.signed, IntKind.bits]; simp; omega
theorem succ_i64 {n : Nat} (h2 : n < 9223372036854775807) : HV.dat (.int .i64) (.I (IntKind.i64.wrap ((n : Int) + 1))) = .dat (.int .i64) (.I ((n + 1 : Nat) : Int)) := by
  rw [wrap_i64 (by omega) (by omega)]; simp

theorem ne0 {n : Int} (h : (n == 0) = false) : n ≠ 0 := by simpa using h
theorem ix {i n : Nat} (h : i < n) : 0 ≤ (i : Int) ∧ (i : Int) < (n : Int) := by omega
/-- A list that is made one by one. -/
def tbl (f : Nat → D) : Nat → List D
  | 0 => []
  | n + 1 => tbl f n ++ [f n]
@[simp] theorem tbl_len (f : Nat → D) : ∀ n, (tbl f n).length = n
  | 0 => rfl
  | n + 1 => by simp [tbl, tbl_len f n]
theorem getD_app_l {l l' : List D} {i : Nat} (h : i < l.length) : (l ++ l').getD i .Z = l.getD i .Z := by
  simp [List.getD_eq_getElem?_getD, List.getElem?_append_left h]
theorem getD_app_r {l : List D} {a : D} : (l ++ [a]).getD l.length .Z = a := by simp
theorem tbl_get (f : Nat → D) : ∀ {n i : Nat}, i < n → (tbl f n).getD i .Z = f i
  | n + 1, i, h => by
    rw [tbl]
    rcases Nat.lt_or_eq_of_le (Nat.le_of_lt_succ h) with h1 | rfl
    · rw [getD_app_l (by rw [tbl_len]; exact h1), tbl_get f h1]
    · have := getD_app_r (l := tbl f i) (a := f i)
      rwa [tbl_len] at this
/-! Entries of a state that are turned into what the next round asks. -/
theorem slot {s : Sh} {a b : Int} (h : a = b) : some (HV.dat s (D.I a)) = some (HV.dat s (D.I b)) := by rw [h]
theorem slotB {s : Sh} {a b : Bool} (h : a = b) : some (HV.dat s (D.B a)) = some (HV.dat s (D.B b)) := by rw [h]
theorem slotD {s : Sh} {a b : D} (h : a = b) : some (HV.dat s a) = some (HV.dat s b) := by rw [h]
theorem gro {s : Sh} {a b : List D} (h : a = b) : some (VO.grow s a) = some (VO.grow s b) := by rw [h]
theorem bx {s t : Sh} {a b : D} (h : a = b) : some (VO.box s (HV.dat t a)) = some (VO.box s (HV.dat t b)) := by rw [h]
theorem i64_1 {n : Nat} (h : n < 9223372036854775807) : IntKind.i64.wrap ((n : Int) + 1) = ((n + 1 : Nat) : Int) := by
  rw [wrap_i64 (by omega) (by omega)]; omega
end Go.Vm
