/- A region, operation by operation. A region that does not draw its order. What the evaluator makes of an operation hangs on its operands and on the objects that it finds. A region that draws its order: the evaluator. A region that draws its order: what the evaluator has shown of the text's order holds of every order. Part 1: the records. -/
import Derived.Test.YtpfpgjkbnjnjnaaWVmQ
import Derived.WalkSpells
noncomputable section
namespace Go.Vm
open Go

/-- Under which guards a value was made: the guard's temporary, the answer that is wanted, and the answer that it gives. -/
abbrev Key := List (Nat × Bool × Bool)
abbrev REnv := List (Nat × Key × HV)
abbrev Env := List (Nat × HV)

def memK (s : Nat) (b : Bool) (al : Key) : Bool :=
  @List.rec (Nat × Bool × Bool) (fun _ => Bool) false (fun p _ ih => match p with
    | (s', b', _) => (Nat.beq s s' && (b == b')) || ih) al
/-- What is made under k may be read under al. -/
def keyLe (k al : Key) : Bool :=
  @List.rec (Nat × Bool × Bool) (fun _ => Bool) true (fun p _ ih => match p with
    | (s, b, _) => memK s b al && ih) k

def KeyCond : Key → Prop
  | [] => True
  | [(_, b, x)] => x = b
  | (_, b, x) :: k => x = b ∧ KeyCond k

def keySlot (d : Nat) (k : Key) : Bool :=
  @List.rec (Nat × Bool × Bool) (fun _ => Bool) false (fun p _ ih => match p with
    | (s, _, _) => Nat.beq d s || ih) k
/-- No value hangs on this temporary. -/
def keyFree (d : Nat) (re : REnv) : Bool :=
  @List.rec (Nat × Key × HV) (fun _ => Bool) true (fun p _ ih => match p with
    | (_, k, _) => !keySlot d k && ih) re

def rho (e : Env) (re : REnv) (al : Key) : Operand → HV
  | .tmp t => match lk re t with
    | some (k, h) => match keyLe k al with
      | true => h
      | false => .und
    | none => match lk e t with
      | some h => h
      | none => .und
  | .const v => cv v
  | .func f => match Nat.ble bndN f with
    | true => .und
    | false => .fn f []
  | .global _ => .und

/-- The key of an operation. -/
def keyOf (re : REnv) (all : List Oper) : Option (Nat × Bool) → Option Key
  | none => some []
  | some (j, want) => match all[j]? with
    | some oj => match oj.dst with
      | some s => match lk re s with
        | some (k, .dat .bool d) => some ((s, want, d.bool) :: k)
        | _ => none
      | none => none
    | none => none

def pickHV (x : Bool) (ox oy : Operand) (hx hy : HV) : Option HV :=
  match ox, oy with
  | .const (.bool true), _ => match hy with
    | .dat .bool e => some (.dat .bool (.B (x || e.bool)))
    | _ => none
  | _, .const (.bool false) => match hx with
    | .dat .bool d => some (.dat .bool (.B (x && d.bool)))
    | _ => none
  | _, _ => match hx, hy with
    | .dat .bool d, .dat .bool e => some (.dat .bool (.B (match x with | true => d.bool | false => e.bool)))
    | .dat (.int k) d, .dat (.int k') e => match decide (k = k') with
      | true => some (.dat (.int k) (.I (match x with | true => d.int | false => e.int)))
      | false => none
    | _, _ => none

def imp' (k : Key) (p : Prop) : Prop := match k with
  | [] => p
  | k => KeyCond k → p

/-- A value, written out as far as its form. -/
def fHV0 (h : HV) (K : HV → Prop) : Prop := match h with
  | .dat s d => K (.dat s d)
  | .ptr o r p s => K (.ptr o r p s)
  | .own o s => K (.own o s)
  | .gptr s d => K (.gptr s d)
  | .sub o s a b => K (.sub o s a b)
  | .fn f cs => K (.fn f cs)
  | .st ss fs => K (.st ss fs)
  | .tup vs => K (.tup vs)
  | .cst v => K (.cst v)
  | .yld o => K (.yld o)
  | .mp o ks vs => K (.mp o ks vs)
  | .mit o => K (.mit o)
  | .und => K .und
theorem fHV0_eq (h : HV) (K : HV → Prop) : fHV0 h K = K h := by cases h <;> rfl
def fHVs (hs : List HV) : (List HV → Prop) → Prop :=
  @List.rec HV (fun _ => (List HV → Prop) → Prop) (fun K => K []) (fun h _ ih K => fHV0 h fun h => ih fun hs => K (h :: hs)) hs
theorem fHVs_eq : ∀ (hs : List HV) (K : List HV → Prop), fHVs hs K = K hs
  | [], _ => rfl
  | h :: hs, K => by show fHV0 h (fun h => fHVs hs fun hs => K (h :: hs)) = _; rw [fHV0_eq, fHVs_eq hs]
/-- Its parts, too. -/
def fHV (h : HV) (K : HV → Prop) : Prop := match h with
  | .dat s d => K (.dat s d)
  | .ptr o r p s => K (.ptr o r p s)
  | .own o s => K (.own o s)
  | .gptr s d => K (.gptr s d)
  | .sub o s a b => K (.sub o s a b)
  | .fn f cs => fHVs cs fun cs => K (.fn f cs)
  | .st ss fs => fHVs fs fun fs => K (.st ss fs)
  | .tup vs => fHVs vs fun vs => K (.tup vs)
  | .cst v => K (.cst v)
  | .yld o => K (.yld o)
  | .mp o ks vs => K (.mp o ks vs)
  | .mit o => K (.mit o)
  | .und => K .und
theorem fHV_eq (h : HV) (K : HV → Prop) : fHV h K = K h := by cases h <;> simp only [fHV, fHVs_eq]
/-- The operands' values. -/
def argsK (e : Env) (re : REnv) (xs : List Operand) : (List HV → Prop) → Prop :=
  @List.rec Operand (fun _ => (List HV → Prop) → Prop) (fun K => K []) (fun x _ ih K => fHV (rho e re [] x) fun h => ih fun hs => K (h :: hs)) xs
theorem argsK_eq (e : Env) (re : REnv) : ∀ (xs : List Operand) (K : List HV → Prop), argsK e re xs K = K (xs.map (rho e re []))
  | [], _ => rfl
  | x :: xs, K => by show fHV (rho e re [] x) (fun h => argsK e re xs fun hs => K (h :: hs)) = _; rw [fHV_eq, argsK_eq e re xs]; rfl
def fU (u : Nat × VO) (K : Nat × VO → Prop) : Prop := match u with
  | (o, .box s v) => fHV v fun v => K (o, .box s v)
  | (o, .grow s xs) => K (o, .grow s xs)
  | (o, .loop st) => K (o, .loop st)
  | (o, .map ks vs es) => K (o, .map ks vs es)
  | (o, .iter om since last seen) => K (o, .iter om since last seen)
  | (o, .vec fs) => fHVs fs fun fs => K (o, .vec fs)
  | (o, .froz s xs) => K (o, .froz s xs)
  | (o, .dead) => K (o, .dead)
/-- The operands' values under a key. -/
def argsKeyK (e : Env) (re : REnv) (key : Key) (xs : List Operand) : (List HV → Prop) → Prop :=
  @List.rec Operand (fun _ => (List HV → Prop) → Prop) (fun K => K []) (fun x _ ih K => fHV (rho e re key x) fun h => ih fun hs => K (h :: hs)) xs
theorem argsKeyK_eq (e : Env) (re : REnv) (key : Key) : ∀ (xs : List Operand) (K : List HV → Prop), argsKeyK e re key xs K = K (xs.map (rho e re key))
  | [], _ => rfl
  | x :: xs, K => by show fHV (rho e re key x) (fun h => argsKeyK e re key xs fun hs => K (h :: hs)) = _; rw [fHV_eq, argsKeyK_eq e re key xs]; rfl
theorem fU_eq (u : Nat × VO) (K : Nat × VO → Prop) : fU u K = K u := by
  obtain ⟨o, vo⟩ := u
  cases vo <;> simp only [fU, fHV_eq, fHVs_eq]

/-- What an operation has made is put in. -/
def applyEf (N : Nat) (re : REnv) (hp : Hp) (key : Key) (hv : HV) (upd : List (Nat × VO)) (nx : Nat) (K : REnv → Hp → Nat → Prop) : Option Nat → Prop
  | none => match upd with
    | [] => K re hp nx
    | [u] => fU u fun u => K re (u :: hp) nx
    | _ => False
  | some d => match Nat.blt d N && keyFree d re && !keySlot d key with
    | false => False
    | true => match upd with
      | [] => K ((d, key, hv) :: re) hp nx
      | [u] => fU u fun u => K ((d, key, hv) :: re) (u :: hp) nx
      | [u, u'] => K ((d, key, hv) :: re) (u :: u' :: hp) nx
      | [u, u', u''] => K ((d, key, hv) :: re) (u :: u' :: u'' :: hp) nx
      | _ => False

/-- What an operation asks. -/
def guardEf (key : Key) (pre : Option Prop) (upd : List (Nat × VO)) (dst : Option Nat) (go : Prop) : Prop := match key with
  | [] => match pre with
    | none => go
    | some p => p ∧ go
  | k => match upd, dst with
    | [], some _ => match pre with
      | none => go
      | some p => imp' k p ∧ go
    | _, _ => KeyCond k ∧ holds pre ∧ go

/-- What is called: a function, or the body of a loop over a function. -/
inductive Cal where
  | fn (n : Nat) | yl (o : Nat)

/-- A step of a range over a map: any entry that was not seen yet; or the end, when all that were there at first were seen. -/
def nextK (hp : Hp) (h : HV) (K : HV → Hp → Prop) : Prop := match h with
  | .mit oi => match lk hp oi with
    | some (.iter om since _ seen) => match lk hp om with
      | some (.map ks vs es) => (∀ i, i < es.length → i ∉ seen → K (.tup [.dat .bool (.B true), .dat ks (es.getD i (.Z, .Z)).1, .dat vs (es.getD i (.Z, .Z)).2]) ((oi, .iter om since es.length (i :: seen)) :: hp)) ∧
        ((∀ i, i < es.length → i < since → i ∈ seen) → K (.tup [.dat .bool (.B false)]) hp)
      | _ => False
    | _ => False
  | _ => False

/-- 'xs == nil' and 'xs != nil': whether a slice without elements is nil is not known. -/
def nilK (c : Ctx) (op : BinOp) (t : Nat) (x : HV) (y : Operand) (K : HV → Prop) : Prop := match op, y, x, lk c.tab t with
  | .eql, .const (.slice none _ _), .dat (.slice _) d, some (.slice _) => ∀ b : Bool, (b = true → d.list = []) → K (.dat .bool (.B b))
  | .neq, .const (.slice none _ _), .dat (.slice _) d, some (.slice _) => ∀ b : Bool, (b = false → d.list = []) → K (.dat .bool (.B b))
  | _, _, _, _ => False

/-- One operation of a region. inl: how a call of a function without a summary, or of yield, is taken; ih: what follows. -/
def vcOpsS (c : Ctx) (inl : Cal → List HV → Hp → Nat → (HV → Hp → Nat → Prop) → Prop) (N : Nat) (e : Env) (all : List Oper) (o : Oper) (ih : REnv → Hp → Nat → (REnv → Hp → Nat → Prop) → Prop) (re : REnv) (hp : Hp) (nx : Nat) (K : REnv → Hp → Nat → Prop) : Prop :=
  match keyOf re all o.guard with
    | none => False
    | some key => match o.op with
      | .pick a x y => match o.dst with
        | none => False
        | some d => match Nat.blt d N && keyFree d re && !keySlot d key with
          | false => False
          | true => match a with
            | .tmp ta => match rho e re key a with
              | .dat .bool b => match pickHV b.bool x y (rho e re ((ta, true, b.bool) :: key) x) (rho e re ((ta, false, b.bool) :: key) y) with
                | some h => fHV h fun h => ih ((d, key, h) :: re) hp nx K
                | none => False
              | _ => False
            | _ => False
      | _ => match vop c nx (rho e re key) hp o.type o.op with
        | some ⟨hv, upd, nx', pre⟩ => guardEf key pre upd o.dst (fHV hv fun hv => applyEf N re hp key hv upd nx' (fun re hp nx => ih re hp nx K) o.dst)
        | none => match o.op, key with
          | .call ⟨.value f, args, _⟩, [] => match rho e re [] f with
            | .fn n caps => match Nat.ble bndN n with
              | true => False
              | false => argsK e re args.toList fun hs => inl (.fn n) (hs ++ caps) hp nx fun h hp' nx' => fHV h fun h => match o.dst with
                | none => ih re hp' nx' K
                | some d => match Nat.blt d N && keyFree d re with
                  | true => ih ((d, [], h) :: re) hp' nx' K
                  | false => False
            | .yld y => argsK e re args.toList fun hs => inl (.yl y) hs hp nx fun h hp' nx' => fHV h fun h => match o.dst with
              | none => ih re hp' nx' K
              | some d => match Nat.blt d N && keyFree d re with
                | true => ih ((d, [], h) :: re) hp' nx' K
                | false => False
            | _ => False
          | .call ⟨.value f, args, _⟩, [(s, want, x)] => match o.dst with
            | none => False
            | some d => match Nat.blt d N && keyFree d re && !keySlot d [(s, want, x)] with
              | false => False
              | true => match rho e re [(s, want, x)] f with
                | .yld y => (x = want → argsKeyK e re [(s, want, x)] args.toList fun hs => inl (.yl y) hs hp nx fun h hp' nx' => fHV h fun h => ih ((d, [(s, want, x)], h) :: re) hp' nx' K) ∧
                    (x = !want → match lk c.tab o.type with
                      | some sh => ih ((d, [(s, want, x)], .dat sh (D0 sh)) :: re) hp nx K
                      | none => False)
                | .fn n caps => match Nat.ble bndN n with
                  | true => False
                  | false => (x = want → argsKeyK e re [(s, want, x)] args.toList fun hs => inl (.fn n) (hs ++ caps) hp nx fun h hp' nx' => fHV h fun h => ih ((d, [(s, want, x)], h) :: re) hp' nx' K) ∧
                      (x = !want → match lk c.tab o.type with
                        | some sh => ih ((d, [(s, want, x)], .dat sh (D0 sh)) :: re) hp nx K
                        | none => False)
                | _ => False
          | .next x s, [] => match s, o.dst with
            | false, some d => match Nat.blt d N && keyFree d re with
              | true => nextK hp (rho e re [] x) fun h hp' => ih ((d, [], h) :: re) hp' nx K
              | false => False
            | _, _ => False
          | .binOp op t x y _, [] => match o.dst with
            | some d => match Nat.blt d N && keyFree d re with
              | true => nilK c op t (rho e re [] x) y fun h => ih ((d, [], h) :: re) hp nx K
              | false => False
            | none => False
          | _, _ => False

/-- The operations of a region, in the order of the text. -/
def vcOps (c : Ctx) (inl : Cal → List HV → Hp → Nat → (HV → Hp → Nat → Prop) → Prop) (N : Nat) (e : Env) (all os : List Oper) : REnv → Hp → Nat → (REnv → Hp → Nat → Prop) → Prop :=
  @List.rec Oper (fun _ => REnv → Hp → Nat → (REnv → Hp → Nat → Prop) → Prop) (fun re hp nx K => K re hp nx) (fun o _ ih => vcOpsS c inl N e all o ih) os
theorem vcOps_cons (c : Ctx) (inl : Cal → List HV → Hp → Nat → (HV → Hp → Nat → Prop) → Prop) (N : Nat) (e : Env) (all : List Oper) (o : Oper) (os : List Oper) : vcOps c inl N e all (o :: os) = vcOpsS c inl N e all o (vcOps c inl N e all os) := rfl

/-! ### What the environments say of a frame -/
def KeyHolds (tmps : Array Value) (k : Key) : Prop := ∀ x ∈ k, tmps.getD x.1 undef = .bool x.2.1

/-- Where a function began: how many blocks lay when the account began, and what was known when the function began. -/
structure MB where
  n : Nat
  gh : Ghost
  mks : Bool
  tail : Option Deferred

/-- The marks of loops over functions, laid since the function began (none, where mk is false); behind them the function's own deferred call, if it has one. -/
def Marks (B : MB) (g : Ghost) : List Deferred → Prop
  | [] => B.tail = none
  | d :: ds => (B.tail = some d ∧ (∀ k, d.target ≠ .collected k) ∧ ds = []) ∨
    (B.mks = true ∧ (∃ k, d = { target := .collected k, args := #[] } ∧ (B.n ≤ k ∧ B.gh k = none) ∧ g k = some (.deferred (some [])) ∧ ∀ d' ∈ ds, d'.target ≠ .collected k) ∧ Marks B g ds)
theorem Marks.mono {B : MB} {g g' : Ghost} (hg : g.le g') : ∀ {ds : List Deferred}, Marks B g ds → Marks B g' ds
  | [], h => h
  | _ :: _, .inl h => .inl h
  | _ :: _, .inr ⟨h0, ⟨k, h1, h2, h3, h4⟩, h⟩ => .inr ⟨h0, ⟨k, h1, h2, hg _ _ h3, h4⟩, Marks.mono hg h⟩

structure FRel (B : MB) (g : Ghost) (loc : Loc) (N : Nat) (e : Env) (re : REnv) (a : Act) : Prop where
  size : a.tmps.size = N
  defers : Marks B g a.defers
  old : B.gh.le g
  base : ∀ t h, lk re t = none → lk e t = some h → HRel g loc h (a.tmps.getD t undef)
  reg : ∀ t k h, lk re t = some (k, h) → (KeyHolds a.tmps k → HRel g loc h (a.tmps.getD t undef)) ∧ (¬ KeyHolds a.tmps k → a.tmps.getD t undef = undef)
  keys : ∀ t k h, lk re t = some (k, h) → ∀ s b x k', k = (s, b, x) :: k' → ∃ d, lk re s = some (k', .dat .bool d) ∧ d.bool = x

theorem FRel.mono {B : MB} {g g' : Ghost} {loc loc' : Loc} {N : Nat} {e : Env} {re : REnv} {a : Act} (hg : g.le g') (hl : loc.le loc') (h : FRel B g loc N e re a) : FRel B g' loc' N e re a where
  size := h.size
  defers := h.defers.mono hg
  old := Ghost.le_trans h.old hg
  base := fun t k h1 h2 => (h.base t k h1 h2).mono hg hl
  reg := fun t k hv h1 => ⟨fun h2 => ((h.reg t k hv h1).1 h2).mono hg hl, (h.reg t k hv h1).2⟩
  keys := h.keys

theorem getD_set_same (ts : Array Value) (d : Nat) (v : Value) (h : d < ts.size) : (ts.setIfInBounds d v).getD d undef = v := by
  simp [Array.getD_eq_getD_getElem?, h]
theorem getD_set_ne' (ts : Array Value) (d t : Nat) (v : Value) (h : t ≠ d) : (ts.setIfInBounds d v).getD t undef = ts.getD t undef := by
  simp [Array.getD_eq_getD_getElem?, Ne.symm h]

theorem memK_spec {s : Nat} {b : Bool} : ∀ {al : Key}, memK s b al = true → ∃ x, (s, b, x) ∈ al
  | (s', b', x') :: al, h => by
    simp only [memK, Bool.or_eq_true, Bool.and_eq_true, beq_iff_eq] at h
    rcases h with ⟨h1, h2⟩ | h
    · exact ⟨x', by rw [Nat.eq_of_beq_eq_true h1, h2]; simp⟩
    · obtain ⟨x, hx⟩ := memK_spec h
      exact ⟨x, by simp [hx]⟩
  | [], h => by simp [memK] at h

theorem keyLe_holds {tmps : Array Value} : ∀ {k al : Key}, keyLe k al = true → KeyHolds tmps al → KeyHolds tmps k
  | [], _, _, _ => fun x hx => by simp at hx
  | (s, b, y) :: k, al, h, ha => by
    simp only [keyLe, Bool.and_eq_true] at h
    obtain ⟨x, hx⟩ := memK_spec h.1
    intro z hz
    rcases List.mem_cons.1 hz with rfl | hz
    · show tmps.getD s undef = .bool b
      exact ha (s, b, x) hx
    · exact keyLe_holds h.2 ha z hz

section
variable {B : MB} {P : Program} {c : Ctx} {g : Ghost} {loc : Loc} {w0 : Base} {w : World} {hp : Hp} {nx N : Nat} {e : Env} {re : REnv} {a : Act}

theorem rho_rel (F : FRel B g loc N e re a) {al : Key} (hal : KeyHolds a.tmps al) (x : Operand) : HRel g loc (rho e re al x) (a.eval x) := by
  cases x with
  | tmp t =>
    simp only [rho, Act.eval]
    split
    · rename_i k h hk
      split
      · rename_i hle
        exact (F.reg t k h hk).1 (keyLe_holds hle hal)
      · exact trivial
    · rename_i hn
      split
      · rename_i h hh
        exact F.base t h hn hh
      · exact trivial
  | const v => exact cv_rel g loc v
  | func f =>
    simp only [rho]
    split
    · exact trivial
    · rename_i hb
      exact fn_mk (g := g) (loc := loc) (f := f) (caps := []) (cs := []) hb (by simp only [HVs])
  | global n => exact trivial

theorem keySlot_spec {d : Nat} : ∀ {k : Key}, keySlot d k = false → ∀ x ∈ k, x.1 ≠ d
  | [], _, _, hx => by simp at hx
  | (s, b, y) :: k, h, x, hx => by
    simp only [keySlot, Bool.or_eq_false_iff] at h
    rcases List.mem_cons.1 hx with rfl | hx
    · intro e
      simp only at e
      rw [e] at h
      simp at h
    · exact keySlot_spec h.2 x hx

theorem keyFree_spec {d : Nat} : ∀ {re : REnv}, keyFree d re = true → ∀ t k h, lk re t = some (k, h) → ∀ x ∈ k, x.1 ≠ d
  | [], _, _, _, _, h => by simp [lk] at h
  | (t', k', h') :: re, hf, t, k, h, hl => by
    simp only [keyFree, Bool.and_eq_true, Bool.not_eq_true'] at hf
    rw [lk_cons] at hl
    split at hl
    · simp only [Option.some.injEq, Prod.mk.injEq] at hl
      obtain ⟨rfl, rfl⟩ := hl
      exact keySlot_spec hf.1
    · exact keyFree_spec hf.2 t k h hl

theorem holds_put {tmps : Array Value} {d : Nat} {v : Value} {k : Key} (h : ∀ x ∈ k, x.1 ≠ d) : KeyHolds (tmps.setIfInBounds d v) k ↔ KeyHolds tmps k := by
  constructor
  · intro hk x hx
    have := hk x hx
    rwa [getD_set_ne' _ _ _ _ (h x hx)] at this
  · intro hk x hx
    rw [getD_set_ne' _ _ _ _ (h x hx)]; exact hk x hx

/-- The key of an operation: it is carried out just where the key holds. -/
theorem keyOf_wanted (F : FRel B g loc N e re a) {ops : List Oper} {gd : Option (Nat × Bool)} {key : Key} (hk : keyOf re ops gd = some key) (o : Oper) (ho : o.guard = gd) :
    (Region.wanted o (yielded ops.toArray a.tmps) = true ↔ KeyHolds a.tmps key) ∧ (∀ s b x k', key = (s, b, x) :: k' → ∃ d, lk re s = some (k', .dat .bool d) ∧ d.bool = x) := by
  cases gd with
  | none =>
    simp only [keyOf, Option.some.injEq] at hk
    subst hk
    refine ⟨⟨fun _ x hx => by simp at hx, fun _ => by simp [Region.wanted, ho]⟩, fun _ _ _ _ h => by cases h⟩
  | some jw =>
    obtain ⟨j, want⟩ := jw
    simp only [keyOf] at hk
    split at hk
    · rename_i oj hoj
      split at hk
      · rename_i s hs
        split at hk
        · rename_i k d hlk
          simp only [Option.some.injEq] at hk
          subst hk
          obtain ⟨h1, h2⟩ := F.reg _ _ _ hlk
          have hy : yielded ops.toArray a.tmps j = match a.tmps[s]? with | some (.bool b) => some b | _ => none := by
            have : ops.toArray[j]? = some oj := by simpa using hoj
            simp only [yielded, this, Option.bind_some, hs]
            rfl
          refine ⟨?_, fun s' b' x' k' h => by
            simp only [List.cons.injEq, Prod.mk.injEq] at h
            obtain ⟨⟨rfl, rfl, rfl⟩, rfl⟩ := h
            exact ⟨d, hlk, rfl⟩⟩
          simp only [Region.wanted, ho, hy]
          have hg : a.tmps.getD s undef = (a.tmps[s]?).getD undef := by simp [Array.getD_eq_getD_getElem?]
          constructor
          · intro hw
            have hs1 : a.tmps.getD s undef = .bool want := by
              rw [hg]
              cases hv : a.tmps[s]? with
              | none => rw [hv] at hw; simp at hw
              | some v =>
                rw [hv] at hw
                cases v <;> simp at hw
                simp [hw]
            have hkh : KeyHolds a.tmps k := by
              by_cases hkk : KeyHolds a.tmps k
              · exact hkk
              · have := h2 hkk
                rw [hs1] at this
                simp [undef] at this
            intro x hx
            rcases List.mem_cons.1 hx with rfl | hx
            · exact hs1
            · exact hkh x hx
          · intro hh
            have hs1 := hh (s, want, d.bool) (by simp)
            simp only at hs1
            rw [hg] at hs1
            cases hv : a.tmps[s]? with
            | none => rw [hv] at hs1; simp [undef] at hs1
            | some v => rw [hv] at hs1; simp only [Option.getD_some] at hs1; subst hs1; simp
        · cases hk
      · cases hk
    · cases hk

theorem keyCond_of (F : FRel B g loc N e re a) : ∀ {key : Key}, KeyHolds a.tmps key → (∀ s b x k', key = (s, b, x) :: k' → ∃ d, lk re s = some (k', .dat .bool d) ∧ d.bool = x) → KeyCond key
  | [], _, _ => trivial
  | (s, b, x) :: k, hh, hk => by
    obtain ⟨d, h1, h2⟩ := hk s b x k rfl
    have hkh : KeyHolds a.tmps k := fun y hy => hh y (by simp [hy])
    have h3 := ((F.reg _ _ _ h1).1 hkh).bool
    have h4 := hh (s, b, x) (by simp)
    simp only at h4
    rw [h4] at h3
    simp only [Value.bool.injEq] at h3
    have e1 : x = b := by rw [← h2, h3]
    cases k with
    | nil => exact e1
    | cons y k => exact ⟨e1, keyCond_of F hkh (F.keys _ _ _ h1)⟩

theorem keyHolds_of (F : FRel B g loc N e re a) : ∀ {key : Key}, KeyCond key → (∀ s b x k', key = (s, b, x) :: k' → ∃ d, lk re s = some (k', .dat .bool d) ∧ d.bool = x) → KeyHolds a.tmps key
  | [], _, _ => fun x hx => by simp at hx
  | (s, b, x) :: k, hc, hk => by
    obtain ⟨d, h1, h2⟩ := hk s b x k rfl
    have e1 : x = b := by
      cases k with
      | nil => exact hc
      | cons y k => exact hc.1
    have hck : KeyCond k := by
      cases k with
      | nil => trivial
      | cons y k => exact hc.2
    have hkh : KeyHolds a.tmps k := keyHolds_of F hck (F.keys _ _ _ h1)
    have h3 := ((F.reg _ _ _ h1).1 hkh).bool
    intro y hy
    rcases List.mem_cons.1 hy with rfl | hy
    · show a.tmps.getD s undef = .bool b
      rw [h3, h2, e1]
    · exact hkh y hy

theorem FRel.congr {re' : REnv} (he : ∀ t, lk re' t = lk re t) (F : FRel B g loc N e re a) : FRel B g loc N e re' a where
  size := F.size
  defers := F.defers
  old := F.old
  base := fun t h h1 h2 => F.base t h (by rw [← he]; exact h1) h2
  reg := fun t k h h1 => F.reg t k h (by rw [← he]; exact h1)
  keys := fun t k h h1 s b x k' h2 => by rw [he]; exact F.keys t k h (by rw [← he]; exact h1) s b x k' h2

/-- A value is put where its key holds, else nothing. -/
theorem FRel.put (F : FRel B g loc N e re a) {d : Nat} {key : Key} {h : HV} {v : Value} (hd : d < N) (hf : ∀ t k h, lk re t = some (k, h) → ∀ x ∈ k, x.1 ≠ d) (hkd : ∀ x ∈ key, x.1 ≠ d)
    (h1 : KeyHolds a.tmps key → HRel g loc h v) (h2 : ¬ KeyHolds a.tmps key → v = undef)
    (hk : ∀ s b x k', key = (s, b, x) :: k' → ∃ d, lk re s = some (k', .dat .bool d) ∧ d.bool = x) : FRel B g loc N e ((d, key, h) :: re) (a.put (some d) v) where
  size := by simp [Act.put, F.size]
  defers := F.defers
  old := F.old
  base := by
    intro t h' hn he
    rw [lk_cons] at hn
    split at hn
    · cases hn
    · rename_i hne
      simp only [Act.put]
      rw [getD_set_ne' _ _ _ _ (Ne.symm hne)]
      exact F.base t h' hn he
  reg := by
    intro t k h' hl
    rw [lk_cons] at hl
    split at hl
    · rename_i he
      subst he
      simp only [Option.some.injEq, Prod.mk.injEq] at hl
      obtain ⟨rfl, rfl⟩ := hl
      simp only [Act.put]
      rw [getD_set_same _ _ _ (by rw [F.size]; exact hd), holds_put hkd]
      exact ⟨h1, h2⟩
    · rename_i hne
      simp only [Act.put]
      rw [getD_set_ne' _ _ _ _ (Ne.symm hne), holds_put (hf t k h' hl)]
      exact F.reg t k h' hl
  keys := by
    have conv : ∀ s k' d', s ≠ d → lk re s = some (k', HV.dat .bool d') → lk ((d, key, h) :: re) s = some (k', .dat .bool d') := by
      intro s k' d' hne hs
      rw [lk_cons, if_neg (Ne.symm hne)]; exact hs
    intro t k h' hl s b x k' hkk
    rw [lk_cons] at hl
    split at hl
    · simp only [Option.some.injEq, Prod.mk.injEq] at hl
      obtain ⟨rfl, rfl⟩ := hl
      obtain ⟨d', k1, k2⟩ := hk s b x k' hkk
      exact ⟨d', conv s k' d' (hkd (s, b, x) (by rw [hkk]; simp)) k1, k2⟩
    · obtain ⟨d', k1, k2⟩ := F.keys t k h' hl s b x k' hkk
      exact ⟨d', conv s k' d' (hf t k h' hl (s, b, x) (by rw [hkk]; simp)) k1, k2⟩
end
end Go.Vm

noncomputable section
namespace Go.Vm
open Go

set_option linter.unusedSimpArgs false
/-- The objects, and nothing from nx on. -/
def HeapN (w0 : Base) (hp : Hp) (nx : Nat) (g : Ghost) (loc : Loc) (w : World) : Prop := HeapRel w0 hp g loc w ∧ ∀ o, nx ≤ o → loc o = none

/-- The run of a call. -/
def CalRun (P : Program) (loc : Loc) (vs : List Value) (w : World) (r : Result Next) : Cal → Prop
  | .fn n => r = (callFunc n vs.toArray).run P w
  | .yl o => ∃ l lr, loc o = some (.loop l lr) ∧ r = (Instr.yield l vs.toArray).run P w

/-- How a call without a summary is taken is right. -/
def InlOK (P : Program) (w0 : Base) (g0 : Ghost) (loc0 : Loc) (inl : Cal → List HV → Hp → Nat → (HV → Hp → Nat → Prop) → Prop) : Prop :=
  ∀ (k : Cal) (hs : List HV) (hp : Hp) (nx : Nat) (K : HV → Hp → Nat → Prop) (g : Ghost) (loc : Loc) (w : World) (vs : List Value) (r : Result Next), inl k hs hp nx K → g0.le g → loc0.le loc → HeapN w0 hp nx g loc w →
    (∀ (i : Nat) h v, hs[i]? = some h → vs[i]? = some v → HRel g loc h v) → hs.length = vs.length → CalRun P loc vs w r k →
    OpWp P (fun v w' => ∃ h hp' nx' g' loc', K h hp' nx' ∧ g.le g' ∧ loc.le loc' ∧ HeapN w0 hp' nx' g' loc' w' ∧ HRel g' loc' h v) r

theorem semAt_eq {ro : Option Nat} {ρ : Operand → Value} {o : Oper} (h : ∀ c, o.op ≠ .defer c) : Oper.semAt ro ρ o = execOp ρ o := by
  unfold Oper.semAt
  split
  · rename_i hc; exact absurd hc (h _)
  · rfl

theorem Oper.wp_of_opwp {F : Fence} (hF : FOK F) {n : Nat} {P : Program} {o : Oper} (ho : ∀ c, o.op ≠ .defer c) {a : Act} {w : World} {next : Act → World → Prop} {Q : Exit → Act → World → Prop} {K : Value → World → Prop}
    (h : OpWp P K ((execOp a.eval o).run P w)) (hk : ∀ v w', K v w' → next (a.put o.dst v) w') : o.wpIn F n P a w next Q := by
  refine ⟨fun f _ => hF.fn f, ?_⟩
  rw [semAt_eq ho]
  generalize (execOp a.eval o).run P w = r at h
  cases r with
  | ok n w' =>
    cases n <;> simp only [OpWp] at h <;> simp only [Oper.uponIn]
    · exact hk _ _ h
    · exact hk _ _ h
    · refine ⟨hF.depth, (hF.calls h).mono fun e w'' ⟨v, he, hv⟩ => ?_⟩
      subst he
      exact hk _ _ hv
    · refine ⟨hF.depth, (hF.rounds (h _)).mono fun e w'' ⟨v, he, hv⟩ => ?_⟩
      subst he
      exact hk _ _ hv
  | halt x w' => simp only [OpWp] at h

theorem vop0_nodefer {c : Ctx} {nx : Nat} {ρ : Operand → HV} {hp : Hp} {ty : Nat} {op : Op} {ef : Ef} (h : vop0 c nx ρ hp ty op = some ef) : ∀ d, op ≠ .defer d := by
  rintro d rfl
  simp [vop0] at h

theorem vop0_nx {c : Ctx} {nx : Nat} {ρ : Operand → HV} {hp : Hp} {ty : Nat} {op : Op} {ef : Ef} (h : vop0 c nx ρ hp ty op = some ef) : nx ≤ ef.nx := by
  cases op <;> simp only [vop0, reduceCtorEq] at h
  case call cl =>
    obtain ⟨callee, args, tys⟩ := cl
    cases callee with
    | builtin b => cases b <;> simp only [vop0, reduceCtorEq] at h <;> (repeat' split at h) <;> first | exact Nat.le_trans (Nat.le_add_right _ 2) (Nat.le_of_eq (appSub_nx h).symm) | (simp only [Option.some.injEq] at h; subst h; first | exact Nat.le_refl _ | exact Nat.le_add_right _ _) | cases h
    | invoke r m => simp [vop0] at h
    | value f =>
      simp only [vop0, fHVsO_eq] at h
      split at h
      · unfold doCall mutCall ownCall at h
        (repeat' split at h) <;> first | exact Nat.le_of_eq (ptrCall_nx h).symm | (simp only [Option.some.injEq] at h; subst h; first | exact Nat.le_refl _ | exact Nat.le_add_right _ _) | cases h
      · cases h
  case makeFunc fn first caps => cases fn <;> simp only [vop0, reduceCtorEq] at h <;> (repeat' split at h) <;> first | (simp only [Option.some.injEq] at h; subst h; first | exact Nat.le_refl _ | exact Nat.le_add_right _ _) | cases h
  all_goals ((repeat' split at h) <;> first | (simp only [Option.some.injEq] at h; subst h; first | exact Nat.le_refl _ | exact Nat.le_add_right _ _) | cases h)

theorem vop_nodefer {c : Ctx} {nx : Nat} {ρ : Operand → HV} {hp : Hp} {ty : Nat} {op : Op} {ef : Ef} (h : vop c nx ρ hp ty op = some ef) : ∀ d, op ≠ .defer d := by
  obtain ⟨ef0, h0, rfl⟩ := vop_some h
  exact vop0_nodefer h0
theorem vop_nx {c : Ctx} {nx : Nat} {ρ : Operand → HV} {hp : Hp} {ty : Nat} {op : Op} {ef : Ef} (h : vop c nx ρ hp ty op = some ef) : nx ≤ ef.nx := by
  obtain ⟨ef0, h0, rfl⟩ := vop_some h
  have := vop0_nx h0
  exact this

section
variable {B : MB} {Fe : Fence} {fn : Nat} {P : Program} {c : Ctx} {w0 : Base} {N : Nat} {e : Env} {all : List Oper} {inl : Cal → List HV → Hp → Nat → (HV → Hp → Nat → Prop) → Prop} {g0 : Ghost} {loc0 : Loc}

theorem blt_lt {d N : Nat} (h : Nat.blt d N = true) : d < N := by
  have h9 : d + 1 ≤ N := by simpa [Nat.blt] using h
  exact h9

theorem put_none (a : Act) (v : Value) : a.put none v = a := rfl

/-- What is asked behind one operation. -/
def Next (B : MB) (w0 : Base) (N : Nat) (e : Env) (g : Ghost) (loc : Loc) (R : REnv → Hp → Nat → Prop) (a : Act) (w : World) : Prop :=
  ∃ re hp nx g' loc', R re hp nx ∧ g.le g' ∧ loc.le loc' ∧ FRel B g' loc' N e re a ∧ HeapN w0 hp nx g' loc' w

theorem pick_sound {g : Ghost} {loc : Loc} {x : Bool} {ox oy : Operand} {hx hy h : HV} {vx vy : Value} (hp : pickHV x ox oy hx hy = some h) (hcx : ∀ v, ox = .const v → vx = v) (hcy : ∀ v, oy = .const v → vy = v)
    (h1 : x = true → HRel g loc hx vx) (h2 : x = false → HRel g loc hy vy) : HRel g loc h (if x then vx else vy) := by
  unfold pickHV at hp
  split at hp
  · split at hp
    · simp only [Option.some.injEq] at hp; subst hp
      cases x with
      | true => rw [hcx _ rfl]; simpa using HRel.bool_mk (b := true)
      | false => have := (h2 rfl).bool; rw [this]; simpa using HRel.bool_mk
    · cases hp
  · split at hp
    · simp only [Option.some.injEq] at hp; subst hp
      cases x with
      | true => have := (h1 rfl).bool; rw [this]; simpa using HRel.bool_mk
      | false => rw [hcy _ rfl]; simpa using HRel.bool_mk (b := false)
    · cases hp
  · split at hp
    · simp only [Option.some.injEq] at hp; subst hp
      cases x with
      | true => have := (h1 rfl).bool; rw [this]; simpa using HRel.bool_mk
      | false => have := (h2 rfl).bool; rw [this]; simpa using HRel.bool_mk
    · split at hp
      · rename_i hk
        simp only [decide_eq_true_eq] at hk; subst hk
        simp only [Option.some.injEq] at hp; subst hp
        cases x with
        | true => obtain ⟨e1, e2, e3⟩ := (h1 rfl).int; rw [e1]; simpa using HRel.int_mk e2 e3
        | false => obtain ⟨e1, e2, e3⟩ := (h2 rfl).int; rw [e1]; simpa using HRel.int_mk e2 e3
      · cases hp
    · cases hp

theorem run_mapNext {P : Program} {n : Nat} (hn : 1 ≤ n) (w : World) : ∃ i w1, (choose (.mapNext n)).run P w = .ok i w1 ∧ i < n ∧ (w1 = w ∨ w1 = w.drew) := by
  by_cases h : n ≤ 1
  · refine ⟨0, w, ?_, by omega, .inl rfl⟩
    simp [run_choose, Question.forced, h]
  · refine ⟨w.tape w.drawn (.mapNext n) % n, w.drew, ?_, Nat.mod_lt _ (by omega), .inr rfl⟩
    simp [run_choose, Question.forced, h, Question.cut]

theorem HeapN.maybe {w0 : Base} {hp : Hp} {nx : Nat} {g : Ghost} {loc : Loc} {w w1 : World} (H : HeapN w0 hp nx g loc w) (h : w1 = w ∨ w1 = w.drew) : HeapN w0 hp nx g loc w1 ∧ w1.heap = w.heap := by
  rcases h with rfl | rfl
  · exact ⟨H, rfl⟩
  · exact ⟨⟨H.1.drew, H.2⟩, rfl⟩

theorem nil_run {P : Program} {c : Ctx} (hC : CtxOK P c) {g : Ghost} {loc : Loc} {w : World} {h : HV} {v : Value} (hr : HRel g loc h v) {op : BinOp} {t : Nat} {x y : Operand} {K : HV → Prop} (hk : nilK c op t h y K) {a : Act} :
    ∃ v', (do eqGuard op t x y v (a.eval y); binOp op t v (a.eval y) : Sem Value).run P w = .ok v' w ∧ ∃ h', K h' ∧ HRel g loc h' v' := by
  unfold nilK at hk
  split at hk
  all_goals first | exact hk.elim | skip
  all_goals rename_i n' c' s d s' ht
  all_goals
    obtain ⟨us, u1, rfl⟩ := HRel.dat_iff.1 hr
    have hl := (hC.tab _ _ ht).1
    simp only [Lay] at hl
    obtain ⟨_, e, hu, _⟩ := hl
    simp only [Rel] at u1
    obtain ⟨p, cap, rfl, u1⟩ := u1
    simp only [Sh.agg, mkV, Act.eval]
    have hnil : p = none → d.list = [] := fun hp => by subst hp; exact u1.1
  · refine ⟨.bool p.isNone, ?_, .dat .bool (.B p.isNone), hk _ (fun hb => hnil (by simpa using hb)), HRel.bool_mk⟩
    rw [Sem.run_bind, run_eqGuard_other _ _ _ _ _ _ (by simp) (by simp), Result.andThen_ok]
    exact Lib.run_eql_slice_nil w t e p _ _ _ _ hu
  · refine ⟨.bool (!p.isNone), ?_, .dat .bool (.B (!p.isNone)), hk _ (fun hb => hnil (by simpa using hb)), HRel.bool_mk⟩
    rw [Sem.run_bind, run_eqGuard_other _ _ _ _ _ _ (by simp) (by simp), Result.andThen_ok]
    exact run_neq_slice_nil_any w t e p _ _ _ _ hu
theorem next_run {P : Program} {w0 : Base} {hp : Hp} {nx : Nat} {g : Ghost} {loc : Loc} {w : World} (H : HeapN w0 hp nx g loc w) {h : HV} {v : Value} (hr : HRel g loc h v) {K : HV → Hp → Prop} (hk : nextK hp h K) (ty : TypeId) :
    ∃ v' w', (Instr.next v false ty).run P w = .ok v' w' ∧ ∃ h' hp', K h' hp' ∧ HeapN w0 hp' nx g loc w' ∧ HRel g loc h' v' := by
  unfold nextK at hk
  split at hk
  · rename_i oi
    split at hk
    · rename_i om since last seen ho
      split at hk
      · rename_i ks vs es hom
        obtain ⟨hk1, hk2⟩ := hk
        obtain ⟨b, bm, k1, k2, k3, k4⟩ := H.1.obj oi _ ho
        obtain ⟨b', e1, e2⟩ := hr.mit
        rw [k1] at e1
        simp only [Option.some.injEq, Place.obj.injEq] at e1
        subst e1
        obtain ⟨bm', arr, m1, m2, m3⟩ := H.1.obj om _ hom
        rw [k2] at m1
        simp only [Option.some.injEq, Place.obj.injEq] at m1
        subst m1
        subst e2
        have hl := m3.length
        simp only [Array.length_toList] at hl
        have hg : (getObj b).run P w = .ok (.mapIter (some bm) since seen.reverse.toArray last) w := by simp [getObj, Sem.run, k3]
        have hun : (!seen.reverse.toArray.isEmpty && !arr.isEmpty && arr.all (fun e => decide (e.born ≥ last))) = false := by
          cases hs : seen with
          | nil => simp
          | cons s0 ss =>
            have h1 := k4 (by rw [hs]; simp)
            cases hes : es with
            | nil =>
              have : arr = #[] := by rw [← Array.toList_inj]; exact List.length_eq_zero_iff.1 (by simp [hl, hes])
              simp [this]
            | cons p es' =>
              rw [hes] at m3
              obtain ⟨e, f1, f2, _⟩ := m3.get 0 p rfl
              have hlt : 0 < arr.size := by rw [hl, hes]; simp
              have : (arr.all fun e => decide (e.born ≥ last)) = false := by
                rw [Array.all_eq_false]
                refine ⟨0, hlt, ?_⟩
                have : arr[0] = e := by
                  have := f1
                  rw [List.getElem?_eq_getElem (by simpa using hlt)] at this
                  simpa using this
                rw [this]
                simp; omega
              rw [this]; simp
        let left := arr.filter fun e => !seen.reverse.toArray.contains e.born
        let old := left.filter fun e => decide (e.born < since)
        let new := left.filter fun e => decide (e.born ≥ since)
        let cand : Array (Option MapEntry) := (if old.isEmpty then #[none] else #[]) ++ (old ++ new).map some
        have hpos : 1 ≤ cand.size := by
          by_cases ho : old.isEmpty = true
          · simp [cand, ho]
          · simp only [cand, if_neg ho]
            have : 0 < old.size := by
              simp only [Array.isEmpty_iff_size_eq_zero] at ho
              omega
            simp; omega
        obtain ⟨i, w1, c1, c2, c3⟩ := run_mapNext (P := P) hpos w
        obtain ⟨H1, hw1⟩ := H.maybe c3
        have hrun : ∀ r, cand[i]? = some r → (Instr.next (.pointer (some ⟨b, 0, none⟩)) false ty).run P w = (match r with
            | some e => (do setObj b (.mapIter (some bm) since (seen.reverse.toArray.push e.born) es.length); pure (.tuple #[.bool true, e.key, e.val]) : Sem Value)
            | none => pure (.tuple #[.bool false])).run P w1 := by
          intro r hr
          simp only [Instr.next, Sem.run_bind, hg, Result.andThen_ok, MapKept.run_getObj_map m2]
          rw [if_neg (by simpa using hun)]
          rw [Sem.run_bind]
          show ((choose (.mapNext cand.size)).run P w).andThen _ = _
          rw [c1, Result.andThen_ok]
          show (match cand[i]? with
            | some (some e) => _
            | some none => _
            | none => _ : Sem Value).run P w1 = _
          rw [hr]
          cases r <;> rfl
        obtain ⟨r, hr⟩ : ∃ r, cand[i]? = some r := ⟨cand[i], by simp [c2]⟩
        cases r with
        | none =>
          have hold : old.isEmpty = true := by
            apply Classical.byContradiction
            intro hno
            have hm := Array.mem_of_getElem? hr
            simp only [cand, if_neg hno] at hm
            simp at hm
          refine ⟨.tuple #[.bool false], w1, by rw [hrun none hr]; rfl, .tup [.dat .bool (.B false)], hp, hk2 ?_, H1, ?_⟩
          · intro j hj hjs
            apply Classical.byContradiction
            intro hns
            have hp0 : es[j]? = some (es.getD j (.Z, .Z)) := by rw [List.getD_eq_getElem?_getD, List.getElem?_eq_getElem hj]; rfl
            obtain ⟨e, g1, g2, _⟩ := m3.get j _ hp0
            rw [Nat.zero_add] at g2
            have hmem : e ∈ old := by
              simp only [old, left, Array.mem_filter]
              refine ⟨⟨Array.mem_def.2 (List.mem_of_getElem? g1), ?_⟩, ?_⟩
              · rw [g2]; simp [hns]
              · rw [g2]; simpa using hjs
            have := Array.isEmpty_iff.1 hold
            rw [this] at hmem
            simp at hmem
          · show ∃ l, HVs g loc _ l ∧ _ = Value.tuple l.toArray
            refine ⟨[.bool false], ?_, rfl⟩
            simp only [HVs, HC]
            exact ⟨⟨[.bool false], by simp only [Rel, D.bool], rfl⟩, trivial⟩
        | some e =>
          have hm := Array.mem_of_getElem? hr
          have hmem : e ∈ left := by
            simp only [cand, Array.mem_append, Array.mem_map, Option.some.injEq, exists_eq_right] at hm
            rcases hm with hm | hm
            · split at hm <;> simp at hm
            · rcases hm with hm | hm
              · simp only [old, Array.mem_filter] at hm; exact hm.1
              · simp only [new, Array.mem_filter] at hm; exact hm.1
          simp only [left, Array.mem_filter] at hmem
          obtain ⟨hin, hns⟩ := hmem
          obtain ⟨j, hj, hje⟩ := List.getElem_of_mem (Array.mem_def.1 hin)
          simp only [Array.length_toList] at hj
          rw [hl] at hj
          have hp0 : es[j]? = some (es.getD j (.Z, .Z)) := by rw [List.getD_eq_getElem?_getD, List.getElem?_eq_getElem hj]; rfl
          obtain ⟨e', g1, g2, g3, g4⟩ := m3.get j _ hp0
          have hee : e' = e := by
            rw [List.getElem?_eq_getElem (by simp; omega)] at g1
            simp only [Option.some.injEq] at g1
            rw [← g1, ← hje]
          subst hee
          rw [Nat.zero_add] at g2
          have hjs : j ∉ seen := by rw [g2] at hns; simpa using hns
          have k3' : w1.heap[b]? = some (.mapIter (some bm) since seen.reverse.toArray last) := by rw [hw1]; exact k3
          have hs := MapKept.heap_set (w := w1) (o' := .mapIter (some bm) since (seen.reverse.toArray.push e'.born) es.length) k3'
          have hset : (setObj b (.mapIter (some bm) since (seen.reverse.toArray.push e'.born) es.length)).run P w1 = .ok () { w1 with heap := w1.heap.setIfInBounds b (.mapIter (some bm) since (seen.reverse.toArray.push e'.born) es.length) } := by
            simp [setObj, Sem.run, k3']
          refine ⟨.tuple #[.bool true, e'.key, e'.val], { w1 with heap := w1.heap.setIfInBounds b (.mapIter (some bm) since (seen.reverse.toArray.push e'.born) es.length) }, ?_, .tup [.dat .bool (.B true), .dat ks (es.getD j (.Z, .Z)).1, .dat vs (es.getD j (.Z, .Z)).2], _, hk1 j hj hjs, ⟨?_, H1.2⟩, ?_⟩
          · rw [hrun (some e') hr]
            simp only [Sem.run_bind, hset, Result.andThen_ok, Sem.run_pure]
          · refine HeapRel.set H1.1 ho rfl k1 rfl (by simp) (fun k hk => hs.2 k hk) ⟨rfl, rfl⟩ ⟨b, bm, k1, k2, ?_, fun _ => by omega⟩
            show (w1.heap.setIfInBounds b _)[b]? = _
            rw [hs.1, g2]; simp
          · show ∃ l, HVs g loc _ l ∧ _ = Value.tuple l.toArray
            refine ⟨[.bool true, e'.key, e'.val], ?_, rfl⟩
            simp only [HVs, HC]
            exact ⟨⟨[.bool true], by simp only [Rel, D.bool], rfl⟩, g3, g4, trivial⟩
      · exact hk.elim
    · exact hk.elim
  · exact hk.elim

/-- One operation, of which the evaluator asks ih of what follows. -/
theorem op_sound (hFo : FOK Fe) (hC : CtxOK P c) (hI : InlOK P w0 g0 loc0 inl) {Q : Exit → Act → World → Prop} {K : REnv → Hp → Nat → Prop} {ih : REnv → Hp → Nat → (REnv → Hp → Nat → Prop) → Prop} {Kk : Act → World → Prop} {o : Oper} {re : REnv} {hp : Hp} {nx : Nat} {g : Ghost} {loc : Loc} {a : Act} {w : World}
    (h : vcOpsS c inl N e all o ih re hp nx K) (hg0 : g0.le g) (hl0 : loc0.le loc) (F : FRel B g loc N e re a) (H : HeapN w0 hp nx g loc w)
    (cont : ∀ re' hp' nx' g' loc' a' w', ih re' hp' nx' K → g.le g' → loc.le loc' → FRel B g' loc' N e re' a' → HeapN w0 hp' nx' g' loc' w' → Kk a' w') :
    if Region.wanted o (yielded all.toArray a.tmps) then o.wpIn Fe fn P a w Kk Q else (∀ f, o.about P w a.eval = some f → Fe.fn f) ∧ Kk (a.put o.dst undef) w := by
    unfold vcOpsS at h
    split at h
    · exact h.elim
    · rename_i key hkey
      obtain ⟨hw, hks⟩ := keyOf_wanted F hkey o rfl
      split at h
      · -- pick
        rename_i pa px py hop
        split at h
        · exact h.elim
        · rename_i d hdst
          split at h
          · exact h.elim
          · rename_i hdd
            simp only [Bool.and_eq_true, Bool.not_eq_true'] at hdd
            obtain ⟨⟨hdN, hdf⟩, hdk⟩ := hdd
            have hdN' : d < N := blt_lt hdN
            split at h
            · rename_i ta
              split at h
              · rename_i b hrb
                split at h
                · rename_i hv hpick
                  rw [fHV_eq] at h
                  split
                  · rename_i hwant
                    have hkh := hw.1 hwant
                    have hc := (hrb ▸ rho_rel F hkh (.tmp ta)).bool
                    have hF := FRel.put F (h := hv) (v := if b.bool then a.eval px else a.eval py) hdN' (keyFree_spec hdf) (keySlot_spec hdk) (fun hkh => pick_sound hpick (fun v hv => by rw [hv]; rfl) (fun v hv => by rw [hv]; rfl)
                      (fun hb => rho_rel F (by
                        intro z hz
                        rcases List.mem_cons.1 hz with rfl | hz
                        · show a.tmps.getD ta undef = .bool true
                          rw [← hb, ← hc]; rfl
                        · exact hkh z hz) px)
                      (fun hb => rho_rel F (by
                        intro z hz
                        rcases List.mem_cons.1 hz with rfl | hz
                        · show a.tmps.getD ta undef = .bool false
                          rw [← hb, ← hc]; rfl
                        · exact hkh z hz) py)) (fun hn => absurd hkh hn) hks
                    refine Oper.wp_of_opwp hFo (by rw [hop]; simp) (K := fun v w' => v = (if b.bool then a.eval px else a.eval py) ∧ w' = w) ?_ ?_
                    · simp only [execOp, hop, Sem.run_bind, hc, asBool, Sem.run_pure, Result.andThen_ok, OpWp]
                      exact ⟨by trivial, by trivial⟩
                    · rintro v w' ⟨rfl, rfl⟩
                      rw [hdst]
                      exact (cont _ _ _ g loc _ _ h (Ghost.le_refl g) (Loc.le_refl loc) hF H)
                  · rename_i hwant
                    have hkh : ¬ KeyHolds a.tmps key := fun hh => hwant (hw.2 hh)
                    rw [hdst]
                    exact ⟨fun f _ => hFo.fn f, (cont _ _ _ g loc _ _ h (Ghost.le_refl g) (Loc.le_refl loc) (FRel.put F hdN' (keyFree_spec hdf) (keySlot_spec hdk) (fun hh => absurd hh hkh) (fun _ => rfl) hks) H)⟩
                · exact h.elim
              · exact h.elim
            · exact h.elim
      · rename_i hnp
        split at h
        · -- an operation of the evaluator
          rename_i hv upd nx' pre hvop
          rw [fHV_eq] at h
          by_cases hwant : Region.wanted o (yielded all.toArray a.tmps) = true
          · have hkh := hw.1 hwant
            rw [if_pos hwant]
            -- its condition holds, and what follows is asked
            have hgo : holds pre ∧ applyEf N re hp key hv upd nx' (fun re hp nx => ih re hp nx K) o.dst := by
              unfold guardEf at h
              split at h
              · split at h
                · exact ⟨trivial, h⟩
                · exact h
              · split at h
                · split at h
                  · exact ⟨trivial, h⟩
                  · refine ⟨?_, h.2⟩
                    have := h.1
                    unfold imp' at this
                    split at this
                    · exact this
                    · exact this (keyCond_of F hkh hks)
                · exact h.2
            obtain ⟨hpre, hap⟩ := hgo
            refine Oper.wp_of_opwp hFo (vop_nodefer hvop) (vop_sound hC (fun x => rho_rel F hkh x) (fun v => rfl) H.1 (H.2 nx (Nat.le_refl _)) (H.2 (nx + 1) (Nat.le_succ _)) hvop hpre) ?_
            rintro v w' ⟨g', loc', hg, hl, hloc, H1, hr⟩
            have H' : HeapN w0 (upd ++ hp) nx' g' loc' w' := ⟨H1, fun o ho => by rw [hloc o (.inr ho)]; exact H.2 o (Nat.le_trans (vop_nx hvop) ho)⟩
            simp only at hr
            have F' := F.mono hg hl
            unfold applyEf at hap
            split at hap
            · rename_i hdst
              rw [hdst, put_none]
              split at hap
              · exact (cont _ _ _ g' loc' _ _ hap hg hl F' H')
              · rw [fU_eq] at hap
                exact (cont _ _ _ g' loc' _ _ hap hg hl F' H')
              · exact hap.elim
            · rename_i d hdst
              rw [hdst]
              split at hap
              · exact hap.elim
              · rename_i hdd
                simp only [Bool.and_eq_true, Bool.not_eq_true'] at hdd
                obtain ⟨⟨hdN, hdf⟩, hdk⟩ := hdd
                have hF := FRel.put F' (h := hv) (v := v) (blt_lt hdN) (keyFree_spec hdf) (keySlot_spec hdk) (fun _ => hr) (fun hn => absurd hkh hn) hks
                split at hap
                · exact (cont _ _ _ g' loc' _ _ hap hg hl hF H')
                · rw [fU_eq] at hap
                  exact (cont _ _ _ g' loc' _ _ hap hg hl hF H')
                · exact (cont _ _ _ g' loc' _ _ hap hg hl hF H')
                · exact (cont _ _ _ g' loc' _ _ hap hg hl hF H')
                · exact hap.elim
          · have hkh : ¬ KeyHolds a.tmps key := fun hh => hwant (hw.2 hh)
            rw [if_neg hwant]
            have hne : key ≠ [] := by rintro rfl; exact hkh fun x hx => by simp at hx
            unfold guardEf at h
            split at h
            · exact absurd rfl hne
            · split at h
              · rename_i d hdst
                have hap : applyEf N re hp key hv [] nx' (fun re hp nx => ih re hp nx K) (some d) := by
                  rw [hdst] at h
                  split at h
                  · exact h
                  · exact h.2
                simp only [applyEf] at hap
                split at hap
                · exact hap.elim
                · rename_i hdd
                  simp only [Bool.and_eq_true, Bool.not_eq_true'] at hdd
                  obtain ⟨⟨hdN, hdf⟩, hdk⟩ := hdd
                  rw [hdst]
                  have hF := FRel.put F (h := hv) (v := undef) (blt_lt hdN) (keyFree_spec hdf) (keySlot_spec hdk) (fun hh => absurd hh hkh) (fun _ => rfl) hks
                  have Hn : HeapN w0 hp nx' g loc w := ⟨H.1, fun o ho => H.2 o (Nat.le_trans (vop_nx hvop) ho)⟩
                  exact ⟨fun f _ => hFo.fn f, (cont _ _ _ g loc _ _ hap (Ghost.le_refl g) (Loc.le_refl loc) hF Hn)⟩
              · exact absurd (keyHolds_of F h.1 hks) hkh
        · -- a call that is walked into
          rename_i hvop
          split at h
          · rename_i f args tys hop
            split at h
            · rename_i n caps hrf
              split at h
              · exact h.elim
              rename_i hbn
              rw [argsK_eq] at h
              simp only [fHV_eq] at h
              have hkh : KeyHolds a.tmps [] := fun x hx => by simp at hx
              rw [if_pos (hw.2 hkh)]
              have hf := rho_rel F hkh f
              rw [hrf] at hf
              obtain ⟨us, h1, h2⟩ := hf
              simp only [HC] at h1
              obtain ⟨cs, h3, rfl⟩ := h1
              simp only [HV.agg, mkV, List.headD_cons] at h2
              rw [fnV_f hbn] at h2
              have hrun : ((execOp a.eval o).run P w) = (callFunc n ((args.toList.map a.eval) ++ cs).toArray).run P w := by
                simp only [execOp, hop, resolve, h2, Deferred.ofValue, Sem.run_bind, Sem.run_pure, Result.andThen_ok, invoke]
                congr 2
                rw [← Array.toList_inj]; simp
              refine Oper.wp_of_opwp hFo (by rw [hop]; simp) ?_ ?_ (K := fun v w' => ∃ h hp' nx' g' loc', (match o.dst with
                | none => ih re hp' nx' K
                | some d => match Nat.blt d N && keyFree d re with
                  | true => ih ((d, [], h) :: re) hp' nx' K
                  | false => False) ∧ g.le g' ∧ loc.le loc' ∧ HeapN w0 hp' nx' g' loc' w' ∧ HRel g' loc' h v)
              · rw [hrun]
                refine hI (.fn n) _ hp nx _ g loc w _ _ h hg0 hl0 H ?_ (by simp [HVs_length h3]) rfl
                intro i hh v h4 h5
                by_cases hi : i < args.toList.length
                · rw [List.getElem?_append_left (by simpa using hi), List.getElem?_map] at h4 h5
                  cases hx : args.toList[i]? with
                  | none => rw [hx] at h4; simp at h4
                  | some x =>
                    rw [hx] at h4 h5
                    simp only [Option.map_some, Option.some.injEq] at h4 h5
                    subst h4; subst h5; exact rho_rel F hkh x
                · rw [List.getElem?_append_right (by simpa using hi)] at h4 h5
                  simp only [List.length_map] at h4 h5
                  obtain ⟨v', h6, h7⟩ := HVs_get h3 h4
                  rw [h6] at h5
                  simp only [Option.some.injEq] at h5; subst h5; exact h7
              · rintro v w' ⟨hv, hp', nx', g', loc', hc, hg, hl, H', hr⟩
                have F' := F.mono hg hl
                split at hc
                · rename_i hdst
                  rw [hdst, put_none]
                  exact (cont _ _ _ g' loc' _ _ hc hg hl F' H')
                · rename_i d hdst
                  rw [hdst]
                  split at hc
                  · rename_i hdd
                    simp only [Bool.and_eq_true] at hdd
                    have hF := FRel.put F' (h := hv) (v := v) (key := []) (blt_lt hdd.1) (keyFree_spec hdd.2) (fun x hx => by simp at hx) (fun _ => hr) (fun hn => absurd (fun x hx => by simp at hx) hn) (fun _ _ _ _ h => by cases h)
                    exact (cont _ _ _ g' loc' _ _ hc hg hl hF H')
                  · exact hc.elim
            · rename_i y hrf
              rw [argsK_eq] at h
              simp only [fHV_eq] at h
              have hkh : KeyHolds a.tmps [] := fun x hx => by simp at hx
              rw [if_pos (hw.2 hkh)]
              have hf := rho_rel F hkh f
              rw [hrf] at hf
              obtain ⟨us, h1, h2⟩ := hf
              simp only [HC] at h1
              obtain ⟨l, lr, h3, rfl⟩ := h1
              simp only [HV.agg, mkV, List.headD_cons] at h2
              have hrun : ((execOp a.eval o).run P w) = (Instr.yield l (args.toList.map a.eval).toArray).run P w := by
                simp only [execOp, hop, resolve, h2, Deferred.ofValue, Sem.run_bind, Sem.run_pure, Result.andThen_ok, invoke]
                congr 2
                rw [← Array.toList_inj]; simp
              refine Oper.wp_of_opwp hFo (by rw [hop]; simp) ?_ ?_ (K := fun v w' => ∃ h hp' nx' g' loc', (match o.dst with
                | none => ih re hp' nx' K
                | some d => match Nat.blt d N && keyFree d re with
                  | true => ih ((d, [], h) :: re) hp' nx' K
                  | false => False) ∧ g.le g' ∧ loc.le loc' ∧ HeapN w0 hp' nx' g' loc' w' ∧ HRel g' loc' h v)
              · rw [hrun]
                refine hI (.yl y) _ hp nx _ g loc w _ _ h hg0 hl0 H ?_ (by simp) ⟨l, lr, h3, rfl⟩
                intro i hh v h4 h5
                rw [List.getElem?_map] at h4 h5
                cases hx : args.toList[i]? with
                | none => rw [hx] at h4; simp at h4
                | some x =>
                  rw [hx] at h4 h5
                  simp only [Option.map_some, Option.some.injEq] at h4 h5
                  subst h4; subst h5; exact rho_rel F hkh x
              · rintro v w' ⟨hv, hp', nx', g', loc', hc, hg, hl, H', hr⟩
                have F' := F.mono hg hl
                split at hc
                · rename_i hdst
                  rw [hdst, put_none]
                  exact (cont _ _ _ g' loc' _ _ hc hg hl F' H')
                · rename_i d hdst
                  rw [hdst]
                  split at hc
                  · rename_i hdd
                    simp only [Bool.and_eq_true] at hdd
                    have hF := FRel.put F' (h := hv) (v := v) (key := []) (blt_lt hdd.1) (keyFree_spec hdd.2) (fun x hx => by simp at hx) (fun _ => hr) (fun hn => absurd (fun x hx => by simp at hx) hn) (fun _ _ _ _ h => by cases h)
                    exact (cont _ _ _ g' loc' _ _ hc hg hl hF H')
                  · exact hc.elim
            · exact h.elim
          · rename_i f args tys s want x hop
            split at h
            · exact h.elim
            · rename_i d hdst
              split at h
              · exact h.elim
              rename_i hdd
              simp only [Bool.and_eq_true, Bool.not_eq_true'] at hdd
              obtain ⟨⟨hdN, hdf⟩, hdk⟩ := hdd
              split at h
              · rename_i y hrf
                obtain ⟨hyes, hno⟩ := h
                by_cases hwant : Region.wanted o (yielded all.toArray a.tmps) = true
                · have hkh := hw.1 hwant
                  rw [if_pos hwant]
                  have h := hyes (keyCond_of F hkh hks)
                  rw [argsKeyK_eq] at h
                  simp only [fHV_eq] at h
                  have hf := rho_rel F hkh f
                  rw [hrf] at hf
                  obtain ⟨us, h1, h2⟩ := hf
                  simp only [HC] at h1
                  obtain ⟨l, lr, h3, rfl⟩ := h1
                  simp only [HV.agg, mkV, List.headD_cons] at h2
                  have hrun : ((execOp a.eval o).run P w) = (Instr.yield l (args.toList.map a.eval).toArray).run P w := by
                    simp only [execOp, hop, resolve, h2, Deferred.ofValue, Sem.run_bind, Sem.run_pure, Result.andThen_ok, invoke]
                    congr 2
                    rw [← Array.toList_inj]; simp
                  refine Oper.wp_of_opwp hFo (by rw [hop]; simp) ?_ ?_ (K := fun v w' => ∃ h hp' nx' g' loc', ih ((d, [(s, want, x)], h) :: re) hp' nx' K ∧ g.le g' ∧ loc.le loc' ∧ HeapN w0 hp' nx' g' loc' w' ∧ HRel g' loc' h v)
                  · rw [hrun]
                    refine hI (.yl y) _ hp nx _ g loc w _ _ h hg0 hl0 H ?_ (by simp) ⟨l, lr, h3, rfl⟩
                    intro i hh v h4 h5
                    rw [List.getElem?_map] at h4 h5
                    cases hx : args.toList[i]? with
                    | none => rw [hx] at h4; simp at h4
                    | some x =>
                      rw [hx] at h4 h5
                      simp only [Option.map_some, Option.some.injEq] at h4 h5
                      subst h4; subst h5; exact rho_rel F hkh x
                  · rintro v w' ⟨hv, hp', nx', g', loc', hc, hg, hl, H', hr⟩
                    have F' := F.mono hg hl
                    rw [hdst]
                    have hF := FRel.put F' (h := hv) (v := v) (blt_lt hdN) (keyFree_spec hdf) (keySlot_spec hdk) (fun _ => hr) (fun hn => absurd hkh hn) hks
                    exact (cont _ _ _ g' loc' _ _ hc hg hl hF H')
                · have hkh : ¬ KeyHolds a.tmps [(s, want, x)] := fun hh => hwant (hw.2 hh)
                  rw [if_neg hwant]
                  have hxn : x = !want := by
                    have : ¬ x = want := fun e => hkh (keyHolds_of F (key := [(s, want, x)]) e hks)
                    cases x <;> cases want <;> simp_all
                  have h := hno hxn
                  split at h
                  · rename_i sh hsh
                    rw [hdst]
                    have hF := FRel.put F (h := .dat sh (D0 sh)) (v := undef) (blt_lt hdN) (keyFree_spec hdf) (keySlot_spec hdk) (fun hh => absurd hh hkh) (fun _ => rfl) hks
                    exact ⟨fun f _ => hFo.fn f, (cont _ _ _ g loc _ _ h (Ghost.le_refl g) (Loc.le_refl loc) hF H)⟩
                  · exact h.elim
              · rename_i n caps hrf
                split at h
                · exact h.elim
                rename_i hbn
                obtain ⟨hyes, hno⟩ := h
                by_cases hwant : Region.wanted o (yielded all.toArray a.tmps) = true
                · have hkh := hw.1 hwant
                  rw [if_pos hwant]
                  have h := hyes (keyCond_of F hkh hks)
                  rw [argsKeyK_eq] at h
                  simp only [fHV_eq] at h
                  have hf := rho_rel F hkh f
                  rw [hrf] at hf
                  obtain ⟨us, h1, h2⟩ := hf
                  simp only [HC] at h1
                  obtain ⟨cs, h3, rfl⟩ := h1
                  simp only [HV.agg, mkV, List.headD_cons] at h2
                  rw [fnV_f hbn] at h2
                  have hrun : ((execOp a.eval o).run P w) = (callFunc n ((args.toList.map a.eval) ++ cs).toArray).run P w := by
                    simp only [execOp, hop, resolve, h2, Deferred.ofValue, Sem.run_bind, Sem.run_pure, Result.andThen_ok, invoke]
                    congr 2
                    rw [← Array.toList_inj]; simp
                  refine Oper.wp_of_opwp hFo (by rw [hop]; simp) ?_ ?_ (K := fun v w' => ∃ h hp' nx' g' loc', ih ((d, [(s, want, x)], h) :: re) hp' nx' K ∧ g.le g' ∧ loc.le loc' ∧ HeapN w0 hp' nx' g' loc' w' ∧ HRel g' loc' h v)
                  · rw [hrun]
                    refine hI (.fn n) _ hp nx _ g loc w _ _ h hg0 hl0 H ?_ (by simp [HVs_length h3]) rfl
                    intro i hh v h4 h5
                    by_cases hi : i < args.toList.length
                    · rw [List.getElem?_append_left (by simpa using hi), List.getElem?_map] at h4 h5
                      cases hx : args.toList[i]? with
                      | none => rw [hx] at h4; simp at h4
                      | some x =>
                        rw [hx] at h4 h5
                        simp only [Option.map_some, Option.some.injEq] at h4 h5
                        subst h4; subst h5; exact rho_rel F hkh x
                    · rw [List.getElem?_append_right (by simpa using hi)] at h4 h5
                      simp only [List.length_map] at h4 h5
                      obtain ⟨v', h6, h7⟩ := HVs_get h3 h4
                      rw [h6] at h5
                      simp only [Option.some.injEq] at h5; subst h5; exact h7
                  · rintro v w' ⟨hv, hp', nx', g', loc', hc, hg, hl, H', hr⟩
                    have F' := F.mono hg hl
                    rw [hdst]
                    have hF := FRel.put F' (h := hv) (v := v) (blt_lt hdN) (keyFree_spec hdf) (keySlot_spec hdk) (fun _ => hr) (fun hn => absurd hkh hn) hks
                    exact (cont _ _ _ g' loc' _ _ hc hg hl hF H')
                · have hkh : ¬ KeyHolds a.tmps [(s, want, x)] := fun hh => hwant (hw.2 hh)
                  rw [if_neg hwant]
                  have hxn : x = !want := by
                    have : ¬ x = want := fun e => hkh (keyHolds_of F (key := [(s, want, x)]) e hks)
                    cases x <;> cases want <;> simp_all
                  have h := hno hxn
                  split at h
                  · rename_i sh hsh
                    rw [hdst]
                    have hF := FRel.put F (h := .dat sh (D0 sh)) (v := undef) (blt_lt hdN) (keyFree_spec hdf) (keySlot_spec hdk) (fun hh => absurd hh hkh) (fun _ => rfl) hks
                    exact ⟨fun f _ => hFo.fn f, (cont _ _ _ g loc _ _ h (Ghost.le_refl g) (Loc.le_refl loc) hF H)⟩
                  · exact h.elim
              · exact h.elim
          · rename_i x s hop
            split at h
            · rename_i d hdst
              split at h
              · rename_i hdd
                simp only [Bool.and_eq_true] at hdd
                have hkh : KeyHolds a.tmps [] := fun x hx => by simp at hx
                rw [if_pos (hw.2 hkh)]
                obtain ⟨v', w', r1, h', hp', r2, r3, r4⟩ := next_run (P := P) H (rho_rel F hkh x) h o.type
                refine Oper.wp_of_opwp hFo (by rw [hop]; simp) (K := fun v w'' => v = v' ∧ w'' = w') ?_ ?_
                · have : (execOp a.eval o).run P w = .ok (.value v') w' := by
                    simp only [execOp, hop, Sem.run_bind, r1, Result.andThen_ok, Sem.run_pure]
                  rw [this]
                  exact ⟨rfl, rfl⟩
                · rintro v w'' ⟨rfl, rfl⟩
                  rw [hdst]
                  have hF := FRel.put F (h := h') (v := v) (key := []) (blt_lt hdd.1) (keyFree_spec hdd.2) (fun x hx => by simp at hx) (fun _ => r4) (fun hn => absurd (fun x hx => by simp at hx) hn) (fun _ _ _ _ h => by cases h)
                  exact (cont _ _ _ g loc _ _ r2 (Ghost.le_refl g) (Loc.le_refl loc) hF r3)
              · exact h.elim
            · exact h.elim
          · rename_i op t x y ty hop
            split at h
            · rename_i d hdst
              split at h
              · rename_i hdd
                simp only [Bool.and_eq_true] at hdd
                have hkh : KeyHolds a.tmps [] := fun x hx => by simp at hx
                rw [if_pos (hw.2 hkh)]
                obtain ⟨v', r1, h', r2, r4⟩ := nil_run (P := P) (w := w) hC (rho_rel F hkh x) h (a := a)
                refine Oper.wp_of_opwp hFo (by rw [hop]; simp) (K := fun v w'' => v = v' ∧ w'' = w) ?_ ?_
                · have : (execOp a.eval o).run P w = .ok (.value v') w := by
                    simp only [execOp, hop]
                    rw [Sem.run_bind] at r1 ⊢
                    simp only [Sem.run_bind] at r1 ⊢
                    rw [r1]
                    simp only [Result.andThen_ok, Sem.run_pure]
                  rw [this]
                  exact ⟨rfl, rfl⟩
                · rintro v w'' ⟨rfl, rfl⟩
                  rw [hdst]
                  have hF := FRel.put F (h := h') (v := v) (key := []) (blt_lt hdd.1) (keyFree_spec hdd.2) (fun x hx => by simp at hx) (fun _ => r4) (fun hn => absurd (fun x hx => by simp at hx) hn) (fun _ _ _ _ h => by cases h)
                  exact (cont _ _ _ g loc _ _ r2 (Ghost.le_refl g) (Loc.le_refl loc) hF H)
              · exact h.elim
            · exact h.elim
          · exact h.elim

theorem vcOps_sound (hFo : FOK Fe) (hC : CtxOK P c) (hI : InlOK P w0 g0 loc0 inl) {Q : Exit → Act → World → Prop} {K : REnv → Hp → Nat → Prop} : ∀ (os : List Oper) (re : REnv) (hp : Hp) (nx : Nat) (g : Ghost) (loc : Loc) (a : Act) (w : World),
    vcOps c inl N e all os re hp nx K → g0.le g → loc0.le loc → FRel B g loc N e re a → HeapN w0 hp nx g loc w →
    (∀ re hp nx g' loc' a w, K re hp nx → g.le g' → loc.le loc' → FRel B g' loc' N e re a → HeapN w0 hp nx g' loc' w → Q .normal a w) → wpListIn Fe fn P all.toArray Q os a w
  | [], re, hp, nx, g, loc, a, w, h, _, _, F, H, hQ => hQ re hp nx g loc a w h (Ghost.le_refl g) (Loc.le_refl loc) F H
  | o :: os, re, hp, nx, g, loc, a, w, h, hg0, hl0, F, H, hQ => by
    have ih := vcOps_sound hFo hC hI (Q := Q) (K := K) os
    refine wpListIn_step fun Kk hKk => ?_
    rw [vcOps_cons] at h
    exact op_sound hFo hC hI h hg0 hl0 F H fun re' hp' nx' g' loc' a' w' hv hg hl F' H' => hKk _ _ (ih re' hp' nx' g' loc' a' w' hv (Ghost.le_trans hg0 hg) (Loc.le_trans hl0 hl) F' H' fun r h n g2 l2 a2 w2 hk hg2 hl2 f2 h2 => hQ r h n g2 l2 a2 w2 hk (Ghost.le_trans hg hg2) (Loc.le_trans hl hl2) f2 h2)

end
end Go.Vm

noncomputable section
namespace Go.Vm
open Go
set_option linter.unusedSimpArgs false

def Hp.le (hp hp' : Hp) : Prop := ∀ o vo, lk hp o = some vo → lk hp' o = some vo

mutual
theorem argD_mono {hp hp' : Hp} (hh : Hp.le hp hp') (hv : HV) (s : Sh) (d : D) (ha : argD hp s hv = some d) : argD hp' s hv = some d := by
  match hv, s, ha with
  | .dat s' e, s, ha => simp only [argD] at ha ⊢; exact ha
  | .own o s', s, ha =>
    cases s <;> simp only [argD, reduceCtorEq] at ha ⊢
    split at ha
    · rename_i hb
      split at ha
      · rename_i s2 xs ho
        rw [hh _ _ ho]
        exact ha
      · rename_i s2 xs ho
        rw [hh _ _ ho]
        exact ha
      · cases ha
    · cases ha
  | .cst v, s, ha => cases s <;> simp only [argD, reduceCtorEq] at ha ⊢; exact ha
  | .st ss' fs, s, ha =>
    cases s <;> simp only [argD, reduceCtorEq] at ha ⊢
    split at ha
    · split at ha
      · rename_i ds hds
        rw [argDs_mono hh fs _ ds hds]
        exact ha
      · cases ha
    · cases ha
  | .ptr .., s, ha => cases s <;> simp [argD] at ha
  | .gptr .., s, ha => cases s <;> simp [argD] at ha
  | .sub .., s, ha => cases s <;> simp [argD] at ha
  | .fn .., s, ha => cases s <;> simp [argD] at ha
  | .tup .., s, ha => cases s <;> simp [argD] at ha
  | .yld .., s, ha => cases s <;> simp [argD] at ha
  | .mp .., s, ha => cases s <;> simp [argD] at ha
  | .mit .., s, ha => cases s <;> simp [argD] at ha
  | .und, s, ha => cases s <;> simp [argD] at ha
termination_by SizeOf.sizeOf hv
theorem argDs_mono {hp hp' : Hp} (hh : Hp.le hp hp') (fs : List HV) (ss : List Sh) (ds : List D) (ha : argDs hp ss fs = some ds) : argDs hp' ss fs = some ds := by
  match fs, ss, ha with
  | [], [], ha => simp only [argDs] at ha ⊢; exact ha
  | f :: fs, s :: ss, ha =>
    simp only [argDs] at ha ⊢
    split at ha
    · rename_i e he
      split at ha
      · rename_i es hes
        rw [argD_mono hh f s e he, argDs_mono hh fs ss es hes]
        exact ha
      · cases ha
    · cases ha
  | [], _ :: _, ha => simp [argDs] at ha
  | _ :: _, [], ha => simp [argDs] at ha
termination_by SizeOf.sizeOf fs
end

theorem putFields_congr {ρ ρ' : Operand → HV} {ss : List Sh} : ∀ (ps : List (Nat × Operand)) (fs : List HV), (∀ p ∈ ps, ρ p.2 = ρ' p.2) → putFields ρ ss fs ps = putFields ρ' ss fs ps
  | [], fs, _ => rfl
  | (i, x) :: rest, fs, h => by
    have hx : ρ x = ρ' x := h (i, x) (by simp)
    simp only [putFields, hx]
    split
    · split
      · exact putFields_congr rest _ fun p hp => h p (by simp [hp])
      · rfl
    · rfl

theorem vecArgs_congr {ρ ρ' : Operand → HV} : ∀ (ps : List (Nat × Operand)) (j : Nat), (∀ p ∈ ps, ρ p.2 = ρ' p.2) → vecArgs ρ ps j = vecArgs ρ' ps j
  | [], j, _ => rfl
  | (i, x) :: rest, j, h => by
    have hx : ρ x = ρ' x := h (i, x) (by simp)
    simp only [vecArgs, hx, vecArgs_congr rest (j + 1) fun p hp => h p (by simp [hp])]
theorem bnd_congr {ρ ρ' : Operand → HV} {y : Option Operand} {n : Int} (h : ∀ x, y = some x → ρ x = ρ' x) : bnd ρ y n = bnd ρ' y n := by
  cases y with
  | none => rfl
  | some x => simp only [bnd, h x rfl]
theorem putElems_congr {ρ ρ' : Operand → HV} {s : Sh} : ∀ (ps : List (Nat × Operand)) (xs : List D), (∀ p ∈ ps, ρ p.2 = ρ' p.2) → vop0.putElems ρ s xs ps = vop0.putElems ρ' s xs ps
  | [], xs, _ => rfl
  | (i, x) :: rest, xs, h => by
    have hx : ρ x = ρ' x := h (i, x) (by simp)
    simp only [vop0.putElems, hx]
    split
    · split
      · exact putElems_congr rest _ fun p hp => h p (by simp [hp])
      · rfl
    · rfl

theorem lk_app_mono {hp hp' : Hp} (hh : Hp.le hp hp') : ∀ {u : List (Nat × VO)} {o : Nat} {v : VO}, lk (u ++ hp) o = some v → lk (u ++ hp') o = some v
  | [], _, _, h => hh _ _ h
  | (k, x) :: u, o, v, h => by
    rw [List.cons_append, lk_cons] at h ⊢
    split at h
    · rename_i e; rw [if_pos e]; exact h
    · rename_i e; rw [if_neg e]; exact lk_app_mono hh h
theorem frzU_mono {hp hp' : Hp} (hh : Hp.le hp hp') : ∀ {l : List Nat} {u u' : List (Nat × VO)}, frzU hp l u = some u' → frzU hp' l u = some u'
  | [], _, _, h => h
  | o :: l, u, u', h => by
    have h : (match lk (u ++ hp) o with
      | some (.grow s xs) => frzU hp l ((o, .froz s xs) :: u)
      | some (.froz _ _) => frzU hp l u
      | _ => none) = some u' := h
    show (match lk (u ++ hp') o with
      | some (.grow s xs) => frzU hp' l ((o, .froz s xs) :: u)
      | some (.froz _ _) => frzU hp' l u
      | _ => none) = some u'
    split at h
    · rename_i s xs ho
      rw [lk_app_mono hh ho]
      exact frzU_mono hh h
    · rename_i s xs ho
      rw [lk_app_mono hh ho]
      exact frzU_mono hh h
    · cases h
theorem doCall_mono {c : Ctx} {nx : Nat} {hp hp' : Hp} (hh : Hp.le hp hp') {f : Nat} {hs : List HV} {ef : Ef} (h : doCall c nx hp f hs = some ef) : doCall c nx hp' f hs = some ef := by
  unfold doCall at h ⊢
  simp only [argDL_eq] at h ⊢
  split at h
  · split at h
    · rename_i M hM
      have hmut : ∀ ef, mutCall M nx hp hs = some ef → mutCall M nx hp' hs = some ef := by
        intro ef h
        unfold mutCall at h ⊢
        split at h
        · rename_i o s' rest
          split at h
          · rename_i s2 xs ds hb ho hds
            simp only [hb, hds, hh _ _ ho]
            exact h
          · cases h
        · cases h
      exact hmut _ h
    · rename_i S hS
      unfold ownCall at h ⊢
      simp only [argDL_eq] at h ⊢
      split at h
      · cases h
      · rename_i ds hds
        rw [argDs_mono hh _ _ _ hds]
        dsimp only
        revert h
        cases shallowL hs with
        | false => exact id
        | true =>
          cases hu : frzU hp (ownIdsL hs) [] with
          | none => intro h; cases h
          | some u => intro h; simp only [frzU_mono hh hu]; exact h
    · rename_i S hS
      unfold ptrCall at h ⊢
      simp only [argDL_eq] at h ⊢
      split at h
      · rename_i l o r s' hu
        split at h
        · rename_i s0 s1 d ho
          split at h
          · rename_i hb
            split at h
            · rename_i ds hds
              simp only [hh _ _ ho, hb, argDs_mono hh _ _ _ hds]
              exact h
            · cases h
          · cases h
        · cases h
      · cases h
    · cases h
  · rename_i S hS
    split at h
    · cases h
    · rename_i ds hds
      rw [argDs_mono hh _ _ _ hds]
      dsimp only
      revert h
      cases ((S.res ds).flatRes || allIsDat hs) with
      | true => exact id
      | false =>
        cases shallowL hs with
        | false => exact id
        | true =>
          cases hu : frzU hp (ownIdsL hs) [] with
          | none => intro h; cases h
          | some u => intro h; simp only [frzU_mono hh hu]; exact h

theorem vop0_mono {c : Ctx} {nx : Nat} {ρ ρ' : Operand → HV} {hp hp' : Hp} {ty : Nat} {op : Op} {ef : Ef} (hρ : ∀ x ∈ op.operands, ρ x = ρ' x) (hh : Hp.le hp hp') (h : vop0 c nx ρ hp ty op = some ef) : vop0 c nx ρ' hp' ty op = some ef := by
  cases op with
  | move x =>
    have hx : ρ x = ρ' x := hρ x (by simp [Op.operands])
    simp only [vop0] at h ⊢
    cases x <;> simp only at h ⊢ <;> rw [← hx] <;> exact h
  | assign x =>
    have hx : ρ x = ρ' x := hρ x (by simp [Op.operands])
    simp only [vop0] at h ⊢
    cases x <;> simp only at h ⊢ <;> rw [← hx] <;> exact h
  | alloc t => simp only [vop0] at h ⊢; exact h
  | box t x =>
    have hx : ρ x = ρ' x := hρ x (by simp [Op.operands])
    simp only [vop0, hx] at h ⊢; exact h
  | build t ps =>
    simp only [vop0] at h ⊢
    have e : ∀ ss, putFields ρ ss (H0s ss) ps.toList = putFields ρ' ss (H0s ss) ps.toList := fun ss => putFields_congr _ _ fun p hp => hρ p.2 (by simp only [Op.operands]; simp; exact ⟨p.1, by simpa using hp⟩)
    have e2 : ∀ s xs, vop0.putElems ρ s xs ps.toList = vop0.putElems ρ' s xs ps.toList := fun s xs => putElems_congr _ _ fun p hp => hρ p.2 (by simp only [Op.operands]; simp; exact ⟨p.1, by simpa using hp⟩)
    simp only [e, e2] at h; exact h
  | buildSlice t n ps =>
    simp only [vop0] at h ⊢
    have hin : ∀ p ∈ ps.toList, ρ p.2 = ρ' p.2 := fun p hp => hρ p.2 (by simp only [Op.operands]; simp; exact ⟨p.1, by simpa using hp⟩)
    have e : ∀ s xs, vop0.putElems ρ s xs ps.toList = vop0.putElems ρ' s xs ps.toList := fun s xs => putElems_congr _ _ hin
    have e2 : vecArgs ρ ps.toList 0 = vecArgs ρ' ps.toList 0 := vecArgs_congr _ _ hin
    simp only [e, e2] at h; exact h
  | slice t x lo hi mx =>
    have hx : ρ x = ρ' x := hρ x (by simp [Op.operands])
    have hlo : ∀ n, bnd ρ lo n = bnd ρ' lo n := fun n => bnd_congr fun y hy => hρ y (by simp [Op.operands, hy])
    have hhi : ∀ n, bnd ρ hi n = bnd ρ' hi n := fun n => bnd_congr fun y hy => hρ y (by simp [Op.operands, hy])
    simp only [vop0, hx, hlo, hhi] at h ⊢
    split at h
    · split at h
      · split at h
        · exact h
        · split at h
          · rename_i ho; rw [hh _ _ ho]; exact h
          · rename_i ho; rw [hh _ _ ho]; exact h
          · cases h
        · cases h
      · rename_i m
        have hm : ρ m = ρ' m := hρ m (by simp [Op.operands])
        split at h
        · rename_i y
          have hy : ρ y = ρ' y := hρ y (by simp [Op.operands])
          rw [hy, hm] at h
          split at h
          · rename_i hc
            split at h
            · rename_i h1 h2 h3
              simp only [hc, h1, h2, argD_mono hh _ _ _ h3]
              exact h
            · cases h
          · rename_i hc
            split at h
            · rename_i h1 h2 h3
              split at h
              · rename_i ho
                simp only [hc, h1, h2, h3, hh _ _ ho]
                exact h
              · cases h
            · cases h
        · cases h
    · split at h
      · split at h
        · split at h
          · split at h
            · rename_i ho; rw [hh _ _ ho]; exact h
            · cases h
          · cases h
        · cases h
      · cases h
    · exact h
    · cases h
  | makeMap t r =>
    simp only [vop0] at h ⊢
    split at h
    · exact h
    · rename_i y _ _ _
      have hy : ρ y = ρ' y := hρ y (by simp [Op.operands])
      rw [hy] at h; exact h
    · cases h
  | insert t m k v =>
    have hm : ρ m = ρ' m := hρ m (by simp [Op.operands])
    have hk : ρ k = ρ' k := hρ k (by simp [Op.operands])
    have hv : ρ v = ρ' v := hρ v (by simp [Op.operands])
    simp only [vop0, hm, hk, hv] at h ⊢
    split at h
    · split at h
      · rename_i hb ho; rw [hb, hh _ _ ho]; exact h
      · cases h
    · split at h
      · rename_i hb ho; rw [hb, hh _ _ ho]; exact h
      · cases h
    · cases h
  | mapUpdate t m k v =>
    have hm : ρ m = ρ' m := hρ m (by simp [Op.operands])
    have hk : ρ k = ρ' k := hρ k (by simp [Op.operands])
    have hv : ρ v = ρ' v := hρ v (by simp [Op.operands])
    simp only [vop0, hm, hk, hv] at h ⊢
    split at h
    · split at h
      · rename_i hb ho; rw [hb, hh _ _ ho]; exact h
      · cases h
    · split at h
      · rename_i hb ho; rw [hb, hh _ _ ho]; exact h
      · cases h
    · cases h
  | lookup t m k ok =>
    have hm : ρ m = ρ' m := hρ m (by simp [Op.operands])
    have hk : ρ k = ρ' k := hρ k (by simp [Op.operands])
    simp only [vop0, hm, hk] at h ⊢
    split at h
    · split at h
      · rename_i hb ho; rw [hb, hh _ _ ho]; exact h
      · cases h
    · split at h
      · rename_i hb ho; rw [hb, hh _ _ ho]; exact h
      · cases h
    · cases h
  | range t m =>
    have hm : ρ m = ρ' m := hρ m (by simp [Op.operands])
    simp only [vop0, hm] at h ⊢
    split at h
    · split at h
      · rename_i ho; rw [hh _ _ ho]; exact h
      · cases h
    · cases h
  | entry x =>
    have hx : ρ x = ρ' x := hρ x (by simp [Op.operands])
    simp only [vop0, hx] at h ⊢
    split at h
    · split at h
      · rename_i ho
        split at h
        · rename_i hom hl
          rw [hh _ _ ho]
          simp only
          rw [hh _ _ hom, hl]
          exact h
        · cases h
      · cases h
    · cases h
  | load t x =>
    have hx : ρ x = ρ' x := hρ x (by simp [Op.operands])
    simp only [vop0, hx] at h ⊢
    split at h
    · rename_i o r p s hr
      split at h
      · split at h
        · split at h
          · rename_i ho; rw [hh _ _ ho]; exact h
          · rename_i ho; rw [hh _ _ ho]; exact h
          · rename_i ho; rw [hh _ _ ho]; exact h
          · cases h
        · cases h
      · cases h
    · exact h
    · cases h
  | store t x y =>
    have hx : ρ x = ρ' x := hρ x (by simp [Op.operands])
    have hy : ρ y = ρ' y := hρ y (by simp [Op.operands])
    simp only [vop0, hx, hy] at h ⊢
    split at h
    · split at h
      · split at h
        · split at h
          · rename_i ho; rw [hh _ _ ho]; exact h
          · rename_i ho; rw [hh _ _ ho]; exact h
          · cases h
        · cases h
      · cases h
    · cases h
  | binOp op t x y t' =>
    have hx : ρ x = ρ' x := hρ x (by simp [Op.operands])
    have hy : ρ y = ρ' y := hρ y (by simp [Op.operands])
    simp only [vop0, hx, hy] at h ⊢; exact h
  | unOp op t x =>
    have hx : ρ x = ρ' x := hρ x (by simp [Op.operands])
    simp only [vop0, hx] at h ⊢; exact h
  | convert t t' x =>
    have hx : ρ x = ρ' x := hρ x (by simp [Op.operands])
    simp only [vop0, hx] at h ⊢
    split at h
    · exact h
    · exact h
    · split at h
      · rename_i he; rw [argD_mono hh _ _ _ he]; exact h
      · cases h
    · cases h
  | makeFunc fn first caps =>
    cases fn with
    | func f =>
      have e : caps.toList.map ρ = caps.toList.map ρ' := List.map_congr_left fun x hx => hρ x (by simp [Op.operands]; exact .inr (by simpa using hx))
      have e2 : ∀ x, first.toList = [x] → ρ x = ρ' x := fun x hx => hρ x (by simp [Op.operands]; exact .inl (by rw [← Array.mem_toList_iff, hx]; simp))
      simp only [vop0, e] at h ⊢
      split at h
      · cases h
      · split at h
        · rename_i hf hs
          exact h
        · rename_i x hf hs
          have e3 := e2 x hf
          simp only [List.map_cons, List.map_nil, e3] at h ⊢
          exact h
        · cases h
    | _ => simp [vop0] at h
  | fieldAddr t x i =>
    have hx : ρ x = ρ' x := hρ x (by simp [Op.operands])
    simp only [vop0, hx] at h ⊢; exact h
  | indexAddr t x y =>
    have hx : ρ x = ρ' x := hρ x (by simp [Op.operands])
    have hy : ρ y = ρ' y := hρ y (by simp [Op.operands])
    simp only [vop0, hx, hy] at h ⊢
    split at h
    · split at h
      · exact h
      · exact h
      · split at h
        · split at h
          · rename_i ho; rw [hh _ _ ho]; exact h
          · rename_i ho; rw [hh _ _ ho]; exact h
          · cases h
        · cases h
      · exact h
      · split at h
        · split at h
          · rename_i ho; rw [hh _ _ ho]; exact h
          · cases h
        · cases h
      · split at h
        · rename_i hm ho; rw [hm, hh _ _ ho]; exact h
        · cases h
      · cases h
    · cases h
  | field t x i =>
    have hx : ρ x = ρ' x := hρ x (by simp [Op.operands])
    simp only [vop0, hx] at h ⊢; exact h
  | index t x y =>
    have hx : ρ x = ρ' x := hρ x (by simp [Op.operands])
    have hy : ρ y = ρ' y := hρ y (by simp [Op.operands])
    simp only [vop0, hx, hy] at h ⊢; exact h
  | extract x i =>
    have hx : ρ x = ρ' x := hρ x (by simp [Op.operands])
    simp only [vop0, hx] at h ⊢; exact h
  | makeSlice t x y =>
    have hx : ρ x = ρ' x := hρ x (by simp [Op.operands])
    have hy : ρ y = ρ' y := hρ y (by simp [Op.operands])
    simp only [vop0, hx, hy] at h ⊢; exact h
  | nilCheck x =>
    have hx : ρ x = ρ' x := hρ x (by simp [Op.operands])
    simp only [vop0, hx] at h ⊢; exact h
  | call cl =>
    obtain ⟨callee, args, tys⟩ := cl
    have hargs : ∀ x ∈ args.toList, ρ x = ρ' x := fun x hx => hρ x (by simp only [Op.operands, Call.operands]; simp; exact .inr (by simpa using hx))
    cases callee with
    | builtin b =>
      cases b with
      | len =>
        simp only [vop0] at h ⊢
        split at h
        · rename_i x t ha ht
          rw [← hargs x (by rw [ha]; simp)]
          split at h
          · exact h
          · exact h
          · split at h
            · rename_i ho; rw [hh _ _ ho]; exact h
            · rename_i ho; rw [hh _ _ ho]; exact h
            · cases h
          · split at h
            · rename_i ho; rw [hh _ _ ho]; exact h
            · cases h
          · split at h
            · rename_i hm ho; rw [hm, hh _ _ ho]; exact h
            · cases h
          · split at h
            · rename_i hm ho; rw [hm, hh _ _ ho]; exact h
            · cases h
          · exact h
          · cases h
        · cases h
      | max =>
        simp only [vop0] at h ⊢
        split at h
        · rename_i x y ha
          rw [← hargs x (by rw [ha]; simp), ← hargs y (by rw [ha]; simp)]
          exact h
        · cases h
      | min =>
        simp only [vop0] at h ⊢
        split at h
        · rename_i x y ha
          rw [← hargs x (by rw [ha]; simp), ← hargs y (by rw [ha]; simp)]
          exact h
        · cases h
      | append =>
        simp only [vop0] at h ⊢
        split at h
        · rename_i x y t t' ha ht
          rw [← hargs x (by rw [ha]; simp), ← hargs y (by rw [ha]; simp)]
          split at h
          · rename_i s s' h1 h2
            split at h
            · rename_i hs
              have hap : ∀ ef, appSub s s' nx hp (ρ x) (ρ y) = some ef → appSub s s' nx hp' (ρ x) (ρ y) = some ef := by
                intro ef h
                unfold appSub at h ⊢
                split at h
                · rename_i e1 e2
                  split at h
                  · rename_i ho; rw [hh _ _ ho]; exact h
                  · cases h
                · cases h
              first
                | exact hap _ h
                | (rw [hs]; exact hap _ h)
            rename_i hs0
            try rw [hs0]
            split at h
            · rename_i e hb he
              rw [hb, argD_mono hh _ _ _ he]
              simp only
              split at h
              · split at h
                · rename_i hb1 ho
                  rw [hh _ _ ho, hb1]
                  exact h
                · cases h
              · exact h
              · cases h
            · cases h
          · cases h
        · cases h
      | clear =>
        simp only [vop0] at h ⊢
        split at h
        · rename_i x t ha ht
          rw [← hargs x (by rw [ha]; simp)]
          split at h
          · rename_i h1 h2
            split at h
            · rename_i ho; rw [hh _ _ ho]; exact h
            · cases h
          · cases h
        · cases h
      | _ => simp [vop0] at h
    | invoke r m => simp [vop0] at h
    | value f =>
      have hf : ρ f = ρ' f := hρ f (by simp [Op.operands, Call.operands])
      have e : args.toList.map ρ = args.toList.map ρ' := List.map_congr_left hargs
      simp only [vop0, fHVsO_eq, hf, e] at h ⊢
      split at h
      · split at h
        · exact doCall_mono hh h
        · exact doCall_mono hh h
      · cases h
  | _ => simp [vop0] at h
theorem vop_mono {c : Ctx} {nx : Nat} {ρ ρ' : Operand → HV} {hp hp' : Hp} {ty : Nat} {op : Op} {ef : Ef} (hρ : ∀ x ∈ op.operands, ρ x = ρ' x) (hh : Hp.le hp hp') (h : vop c nx ρ hp ty op = some ef) : vop c nx ρ' hp' ty op = some ef := by
  obtain ⟨ef0, h0, rfl⟩ := vop_some h
  exact vop_of (vop0_mono hρ hh h0)
end Go.Vm

noncomputable section
namespace Go.Vm
open Go

abbrev RH := List (Nat × Key × VO)

/-- What an operation of a region has come to: its temporary, its key, its value, the objects that it has turned, the temporaries and the objects that it looks at. -/
structure Rec where
  dst : Option Nat
  key : Key
  hv : HV
  upd : List (Nat × VO)
  used : List Nat
  ids : List Nat

/-! ### Lists made by continuation, so that they stand written out -/
def opTmps : List Operand → List Nat
  | [] => []
  | .tmp t :: xs => t :: opTmps xs
  | _ :: xs => opTmps xs
def opTmpsK (xs : List Operand) : (List Nat → Prop) → Prop :=
  @List.rec Operand (fun _ => (List Nat → Prop) → Prop) (fun K => K []) (fun x _ ih K => match x with
    | .tmp t => ih fun l => K (t :: l)
    | _ => ih K) xs
theorem opTmpsK_eq : ∀ (xs : List Operand) (K : List Nat → Prop), opTmpsK xs K = K (opTmps xs)
  | [], _ => rfl
  | .tmp t :: xs, K => opTmpsK_eq xs fun l => K (t :: l)
  | .const _ :: xs, K => opTmpsK_eq xs K
  | .func _ :: xs, K => opTmpsK_eq xs K
  | .global _ :: xs, K => opTmpsK_eq xs K

def keySlots : Key → List Nat
  | [] => []
  | (s, _, _) :: k => s :: keySlots k
def keySlotsK (k : Key) (l : List Nat) : (List Nat → Prop) → Prop :=
  @List.rec (Nat × Bool × Bool) (fun _ => (List Nat → Prop) → Prop) (fun K => K l) (fun p _ ih K => match p with
    | (s, _, _) => ih fun l' => K (s :: l')) k
theorem keySlotsK_eq : ∀ (k : Key) (l : List Nat) (K : List Nat → Prop), keySlotsK k l K = K (keySlots k ++ l)
  | [], _, _ => rfl
  | (s, _, _) :: k, l, K => keySlotsK_eq k l fun l' => K (s :: l')

/-- The objects that a value names (as deep as four levels: what lies deeper is not found, and the operation then fails). -/
def idsL (ih : HV → List Nat) (hs : List HV) : List Nat := @List.rec HV (fun _ => List Nat) [] (fun h _ r => ih h ++ r) hs
def idsS (ih : HV → List Nat) (h : HV) : List Nat := match h with
  | .ptr o _ _ _ => [o]
  | .own o _ => [o]
  | .sub o _ _ _ => [o]
  | .mp o _ _ => [o]
  | .mit o => [o]
  | .st _ fs => idsL ih fs
  | .fn _ fs => idsL ih fs
  | _ => []
def idsHV (fu : Nat) : HV → List Nat := @Nat.rec (fun _ => HV → List Nat) (fun _ => []) (fun _ ih => idsS ih) fu
def idsHVs (hs : List HV) : List Nat := idsL (idsHV 4) hs
def fNats (l : List Nat) : (List Nat → Prop) → Prop :=
  @List.rec Nat (fun _ => (List Nat → Prop) → Prop) (fun K => K []) (fun n _ ih K => ih fun l => K (n :: l)) l
theorem fNats_eq : ∀ (l : List Nat) (K : List Nat → Prop), fNats l K = K l
  | [], _ => rfl
  | n :: l, K => fNats_eq l fun l => K (n :: l)
def idssK (hs : List HV) (l : List Nat) (K : List Nat → Prop) : Prop := fNats (idsHVs hs ++ l) K
theorem idssK_eq (hs : List HV) (l : List Nat) (K : List Nat → Prop) : idssK hs l K = K (idsHVs hs ++ l) := fNats_eq _ _

/-- The values of operands, one by one. -/
def rhosK (e : Env) (re : REnv) (key : Key) (xs : List Operand) : (List HV → Prop) → Prop :=
  @List.rec Operand (fun _ => (List HV → Prop) → Prop) (fun K => K []) (fun x _ ih K => fHV (rho e re key x) fun h => ih fun l => K (h :: l)) xs
theorem rhosK_eq (e : Env) (re : REnv) (key : Key) : ∀ (xs : List Operand) (K : List HV → Prop), rhosK e re key xs K = K (xs.map (rho e re key))
  | [], _ => rfl
  | x :: xs, K => by show fHV (rho e re key x) (fun h => rhosK e re key xs fun l => K (h :: l)) = _; rw [fHV_eq, rhosK_eq e re key xs]; rfl

/-- Those objects that an operation may look at, as they stand. -/
def resH (rh : RH) (hp : Hp) (key : Key) : List Nat → Hp
  | [] => []
  | o :: os => match lk rh o with
    | some (k, vo) => match keyLe k key with
      | true => (o, vo) :: resH rh hp key os
      | false => resH rh hp key os
    | none => match lk hp o with
      | some vo => (o, vo) :: resH rh hp key os
      | none => resH rh hp key os
def resK (rh : RH) (hp : Hp) (key : Key) (os : List Nat) : (Hp → Prop) → Prop :=
  @List.rec Nat (fun _ => (Hp → Prop) → Prop) (fun K => K []) (fun o _ ih K => match lk rh o with
    | some (k, vo) => match keyLe k key with
      | true => ih fun l => K ((o, vo) :: l)
      | false => ih K
    | none => match lk hp o with
      | some vo => ih fun l => K ((o, vo) :: l)
      | none => ih K) os
theorem resK_eq (rh : RH) (hp : Hp) (key : Key) : ∀ (os : List Nat) (K : Hp → Prop), resK rh hp key os K = K (resH rh hp key os)
  | [], _ => rfl
  | o :: os, K => by
    have ih := resK_eq rh hp key os
    show (match lk rh o with
      | some (k, vo) => match keyLe k key with
        | true => resK rh hp key os fun l => K ((o, vo) :: l)
        | false => resK rh hp key os K
      | none => match lk hp o with
        | some vo => resK rh hp key os fun l => K ((o, vo) :: l)
        | none => resK rh hp key os K) = _
    simp only [resH]
    split
    · split <;> rw [ih]
    · split <;> rw [ih]

def memN (n : Nat) (l : List Nat) : Bool := @List.rec Nat (fun _ => Bool) false (fun m _ ih => Nat.beq n m || ih) l
theorem memN_iff {n : Nat} : ∀ {l : List Nat}, memN n l = true ↔ n ∈ l
  | [] => by simp [memN]
  | m :: l => by
    have e : memN n (m :: l) = (Nat.beq n m || memN n l) := rfl
    rw [e]
    simp only [Bool.or_eq_true, List.mem_cons, memN_iff (l := l)]
    constructor
    · rintro (h | h)
      · exact .inl (Nat.eq_of_beq_eq_true h)
      · exact .inr h
    · rintro (h | h)
      · subst h; exact .inl (by simp)
      · exact .inr h
def interU (us : List (Nat × VO)) (l : List Nat) : Bool := @List.rec (Nat × VO) (fun _ => Bool) false (fun p _ ih => match p with
  | (o, _) => memN o l || ih) us
def interUU (us vs : List (Nat × VO)) : Bool := @List.rec (Nat × VO) (fun _ => Bool) false (fun p _ ih => match p with
  | (o, _) => (match lk vs o with
    | some _ => true
    | none => false) || ih) us

def dstIn (d : Option Nat) (l : List Nat) : Bool := match d with
  | none => false
  | some d => memN d l
def dstEq (a b : Option Nat) : Bool := match a, b with
  | some a, some b => Nat.beq a b
  | _, _ => false

/-- The two must keep their order. -/
def conf (a b : Rec) : Bool := dstIn a.dst b.used || dstIn b.dst a.used || dstEq a.dst b.dst || interU a.upd b.ids || interU b.upd a.ids || interUU a.upd b.upd

def bindB : Ground → Bool
  | .textOnly _ | .gcOnly _ => false
  | _ => true
def edgeIn (j : Nat) (es : List Edge) : Bool := @List.rec Edge (fun _ => Bool) false (fun e _ ih => (Nat.beq e.on j && bindB e.ground) || ih) es
def edgesBack (i : Nat) (es : List Edge) : Bool := @List.rec Edge (fun _ => Bool) true (fun e _ ih => (!bindB e.ground || Nat.blt e.on i) && ih) es

def isData : Ground → Bool
  | .data => true
  | _ => false
def guardIs (g : Option (Nat × Bool)) (k : Nat) : Bool := match g with
  | none => false
  | some (g, _) => Nat.beq g k
/-- o comes after j: by an edge of its own, or by those of what it comes after (its operands and its guard). -/
def reachE (all : List Oper) (ih : Oper → Nat → Bool) (g : Option (Nat × Bool)) (j : Nat) (es : List Edge) : Bool := @List.rec Edge (fun _ => Bool) false (fun e _ r => (match (isData e.ground || guardIs g e.on) && (bindB e.ground && Nat.blt j e.on) with
  | true => (match all[e.on]? with
    | none => false
    | some oe => ih oe j)
  | false => false) || r) es
theorem reachE_mem {all : List Oper} {ih : Oper → Nat → Bool} {g : Option (Nat × Bool)} {j : Nat} : ∀ {es : List Edge}, reachE all ih g j es = true → ∃ e ∈ es, bindB e.ground = true ∧ ∃ oe, all[e.on]? = some oe ∧ ih oe j = true
  | [], h => by simp [reachE] at h
  | e :: es, h => by
    have h : ((match (isData e.ground || guardIs g e.on) && (bindB e.ground && Nat.blt j e.on) with
      | true => (match all[e.on]? with
        | none => false
        | some oe => ih oe j)
      | false => false) || reachE all ih g j es) = true := h
    rw [Bool.or_eq_true] at h
    rcases h with h | h
    · split at h
      · rename_i hb
        simp only [Bool.and_eq_true] at hb
        split at h
        · cases h
        · rename_i oe ho
          exact ⟨e, by simp, hb.2.1, oe, ho, h⟩
      · cases h
    · obtain ⟨e', h1, h2⟩ := reachE_mem h
      exact ⟨e', by simp [h1], h2⟩
def reachS (all : List Oper) (ih : Oper → Nat → Bool) (o : Oper) (j : Nat) : Bool := edgeIn j o.after.toList || reachE all ih o.guard j o.after.toList
def reachG (all : List Oper) (fu : Nat) : Oper → Nat → Bool := @Nat.rec (fun _ => Oper → Nat → Bool) (fun o j => edgeIn j o.after.toList) (fun _ ih => reachS all ih) fu

/-- The same, with one edge of any binding kind in front. -/
def reachB (all : List Oper) (j : Nat) (es : List Edge) : Bool := @List.rec Edge (fun _ => Bool) false (fun e _ r => (match bindB e.ground && Nat.blt j e.on with
  | true => (match all[e.on]? with
    | none => false
    | some oe => reachG all 40 oe j)
  | false => false) || r) es
theorem reachB_mem {all : List Oper} {j : Nat} : ∀ {es : List Edge}, reachB all j es = true → ∃ e ∈ es, bindB e.ground = true ∧ ∃ oe, all[e.on]? = some oe ∧ reachG all 40 oe j = true
  | [], h => by simp [reachB] at h
  | e :: es, h => by
    have h : ((match bindB e.ground && Nat.blt j e.on with
      | true => (match all[e.on]? with
        | none => false
        | some oe => reachG all 40 oe j)
      | false => false) || reachB all j es) = true := h
    rw [Bool.or_eq_true] at h
    rcases h with h | h
    · split at h
      · rename_i hb
        simp only [Bool.and_eq_true] at hb
        split at h
        · cases h
        · rename_i oe ho
          exact ⟨e, by simp, hb.1, oe, ho, h⟩
      · cases h
    · obtain ⟨e', h1, h2⟩ := reachB_mem h
      exact ⟨e', by simp [h1], h2⟩
def reachA (all : List Oper) (o : Oper) (j : Nat) : Bool := reachG all 40 o j || reachB all j o.after.toList
def confOK (all : List Oper) (o : Oper) (cur : Rec) (l : List (Nat × Rec)) : Bool := @List.rec (Nat × Rec) (fun _ => Bool) true (fun p _ ih => match p with
  | (j, r) => (!conf r cur || reachA all o j) && ih) l

/-- What an operation under a guard may turn: anything (what it turns is dead behind the region). -/
def keyedOK (_key : Key) (_nx : Nat) (_upd : List (Nat × VO)) : Bool := true

def dstOK (N : Nat) (key : Key) (re : REnv) : Option Nat → Bool
  | none => match key with
    | [] => true
    | _ => false
  | some d => Nat.blt d N && keyFree d re && !keySlot d key

def addRe (dst : Option Nat) (key : Key) (hv : HV) (re : REnv) : REnv := match dst with
  | none => re
  | some d => (d, key, hv) :: re
def addRh (key : Key) (upd : List (Nat × VO)) (rh : RH) : RH := match upd with
  | [] => rh
  | (o, vo) :: upd => (o, key, vo) :: addRh key upd rh

def addRhK (key : Key) (upd : List (Nat × VO)) (rh : RH) : (RH → Prop) → Prop :=
  @List.rec (Nat × VO) (fun _ => (RH → Prop) → Prop) (fun K => K rh) (fun u _ ih K => fU u fun u => match u with
    | (o, vo) => ih fun rh => K ((o, key, vo) :: rh)) upd
theorem addRhK_eq (key : Key) : ∀ (upd : List (Nat × VO)) (rh : RH) (K : RH → Prop), addRhK key upd rh K = K (addRh key upd rh)
  | [], _, _ => rfl
  | (o, vo) :: upd, rh, K => by show fU (o, vo) (fun u => match u with | (o, vo) => addRhK key upd rh fun rh => K ((o, key, vo) :: rh)) = _; rw [fU_eq]; exact addRhK_eq key upd rh _

def preAnd (key : Key) (pre : Option Prop) (K : Prop) : Prop := match pre with
  | none => K
  | some p => imp' key p ∧ K

/-- The values whose objects an operation may look at (an address is reckoned without a look). -/
def lookHs (op : Op) (hs : List HV) : List HV := match op with
  | .fieldAddr _ _ _ => []
  | .move _ => []
  | .indexAddr _ _ _ => match hs with
    | .ptr _ _ _ _ :: _ => []
    | hs => hs
  | _ => hs

/-- One operation of a region that draws; what the text's order gives is asked to be what every order gives. -/
def vcDrawS (c : Ctx) (N : Nat) (e : Env) (hp : Hp) (nx : Nat) (all : List Oper) (o : Oper) (ih : Nat → List (Nat × Rec) → REnv → RH → (REnv → RH → Prop) → Prop) (i : Nat) (done : List (Nat × Rec)) (re : REnv) (rh : RH) (K : REnv → RH → Prop) : Prop :=
  match keyOf re all o.guard with
    | none => False
    | some key => match dstOK N key re o.dst && edgesBack i o.after.toList with
      | false => False
      | true => opTmpsK o.op.operands.toList fun ts => keySlotsK key ts fun used => match o.op with
        | .pick a x y => match a, o.dst with
          | .tmp ta, some d => match rho e re key a with
            | .dat .bool b => match pickHV b.bool x y (rho e re ((ta, true, b.bool) :: key) x) (rho e re ((ta, false, b.bool) :: key) y) with
              | some h => fHV h fun h => match confOK all o ⟨some d, key, h, [], used, []⟩ done with
                | true => ih (i + 1) ((i, ⟨some d, key, h, [], used, []⟩) :: done) ((d, key, h) :: re) rh K
                | false => False
              | none => False
            | _ => False
          | _, _ => False
        | _ => rhosK e re key o.op.operands.toList fun hs => idssK (lookHs o.op hs) [] fun ids => resK rh hp key ids fun hres =>
          match vop c (nx + 2 * i) (rho e re key) hres o.type o.op with
          | some ⟨hv, upd, _, pre⟩ => fHV hv fun hv => match keyedOK key (nx + 2 * i) upd && confOK all o ⟨o.dst, key, hv, upd, used, ids⟩ done with
            | true => preAnd key pre (addRhK key upd rh fun rh => ih (i + 1) ((i, ⟨o.dst, key, hv, upd, used, ids⟩) :: done) (match o.dst with
              | none => re
              | some d => (d, key, hv) :: re) rh K)
            | false => False
          | none => False

/-- The operations of a region that draws, in the order of the text. -/
def vcDraw (c : Ctx) (N : Nat) (e : Env) (hp : Hp) (nx : Nat) (all os : List Oper) : Nat → List (Nat × Rec) → REnv → RH → (REnv → RH → Prop) → Prop :=
  @List.rec Oper (fun _ => Nat → List (Nat × Rec) → REnv → RH → (REnv → RH → Prop) → Prop) (fun _ _ re rh K => K re rh) (fun o _ ih => vcDrawS c N e hp nx all o ih) os
theorem vcDraw_cons (c : Ctx) (N : Nat) (e : Env) (hp : Hp) (nx : Nat) (all : List Oper) (o : Oper) (os : List Oper) : vcDraw c N e hp nx all (o :: os) = vcDrawS c N e hp nx all o (vcDraw c N e hp nx all os) := rfl
theorem vcDraw_nil (c : Ctx) (N : Nat) (e : Env) (hp : Hp) (nx : Nat) (all : List Oper) (i : Nat) (done : List (Nat × Rec)) (re : REnv) (rh : RH) (K : REnv → RH → Prop) : vcDraw c N e hp nx all [] i done re rh K = K re rh := rfl
/-- No two records conflict, but in an order that is kept. -/
def confAll (all : List Oper) (l : List (Nat × Rec)) : Bool := @List.rec (Nat × Rec) (fun _ => Bool) true (fun p tl ih => match p with
  | (i, r) => (match all[i]? with
    | some o => confOK all o r tl
    | none => false) && ih) l
theorem confAll_cons {all : List Oper} {i : Nat} {r : Rec} {l : List (Nat × Rec)} (h : confAll all ((i, r) :: l) = true) {o : Oper} (ho : all[i]? = some o) : confOK all o r l = true ∧ confAll all l = true := by
  have h1 : ((match all[i]? with
    | some o => confOK all o r l
    | none => false) && confAll all l) = true := h
  rw [ho] at h1
  simpa using h1
/-- The same, with what is asked of the order left to the end. -/
def vcDrawFS (c : Ctx) (N : Nat) (e : Env) (hp : Hp) (nx : Nat) (all : List Oper) (o : Oper) (ih : Nat → List (Nat × Rec) → REnv → RH → (REnv → RH → Prop) → Prop) (i : Nat) (done : List (Nat × Rec)) (re : REnv) (rh : RH) (K : REnv → RH → Prop) : Prop :=
  match keyOf re all o.guard with
    | none => False
    | some key => match dstOK N key re o.dst && edgesBack i o.after.toList with
      | false => False
      | true => opTmpsK o.op.operands.toList fun ts => keySlotsK key ts fun used => match o.op with
        | .pick a x y => match a, o.dst with
          | .tmp ta, some d => match rho e re key a with
            | .dat .bool b => match pickHV b.bool x y (rho e re ((ta, true, b.bool) :: key) x) (rho e re ((ta, false, b.bool) :: key) y) with
              | some h => fHV h fun h => ih (i + 1) ((i, ⟨some d, key, h, [], used, []⟩) :: done) ((d, key, h) :: re) rh K
              | none => False
            | _ => False
          | _, _ => False
        | _ => rhosK e re key o.op.operands.toList fun hs => idssK (lookHs o.op hs) [] fun ids => resK rh hp key ids fun hres =>
          match vop c (nx + 2 * i) (rho e re key) hres o.type o.op with
          | some ⟨hv, upd, _, pre⟩ => fHV hv fun hv => match keyedOK key (nx + 2 * i) upd with
            | true => preAnd key pre (addRhK key upd rh fun rh => match o.dst with
              | none => ih (i + 1) ((i, ⟨o.dst, key, hv, upd, used, ids⟩) :: done) re rh K
              | some d => ih (i + 1) ((i, ⟨o.dst, key, hv, upd, used, ids⟩) :: done) ((d, key, hv) :: re) rh K)
            | false => False
          | none => False

/-- All operations of a region that draws; behind them: no two that must keep their order are free to change it. -/
def vcDrawF (c : Ctx) (N : Nat) (e : Env) (hp : Hp) (nx : Nat) (all os : List Oper) : Nat → List (Nat × Rec) → REnv → RH → (REnv → RH → Prop) → Prop :=
  @List.rec Oper (fun _ => Nat → List (Nat × Rec) → REnv → RH → (REnv → RH → Prop) → Prop) (fun _ done re rh K => confAll all done = true ∧ K re rh) (fun o _ ih => vcDrawFS c N e hp nx all o ih) os
theorem vcDrawF_cons (c : Ctx) (N : Nat) (e : Env) (hp : Hp) (nx : Nat) (all : List Oper) (o : Oper) (os : List Oper) : vcDrawF c N e hp nx all (o :: os) = vcDrawFS c N e hp nx all o (vcDrawF c N e hp nx all os) := rfl
theorem vcDrawF_nil (c : Ctx) (N : Nat) (e : Env) (hp : Hp) (nx : Nat) (all : List Oper) (i : Nat) (done : List (Nat × Rec)) (re : REnv) (rh : RH) (K : REnv → RH → Prop) : vcDrawF c N e hp nx all [] i done re rh K = (confAll all done = true ∧ K re rh) := rfl
theorem vcDrawF_draw {c : Ctx} {N : Nat} {e : Env} {hp : Hp} {nx : Nat} {all : List Oper} {K : REnv → RH → Prop} : ∀ (os : List Oper) (i : Nat) (done : List (Nat × Rec)) (re : REnv) (rh : RH), all.drop i = os →
    vcDrawF c N e hp nx all os i done re rh K → confAll all done = true ∧ vcDraw c N e hp nx all os i done re rh K
  | [], i, done, re, rh, _, h => by rw [vcDrawF_nil] at h; exact h
  | o :: os, i, done, re, rh, hd, h => by
    have hoi : all[i]? = some o := by
      have : (all.drop i)[0]? = some o := by rw [hd]; rfl
      simpa using this
    have hd' : all.drop (i + 1) = os := by
      have : (all.drop i).tail = os := by rw [hd]; rfl
      rw [← this, List.tail_drop]
    rw [vcDrawF_cons] at h
    rw [vcDraw_cons]
    unfold vcDrawFS at h
    unfold vcDrawS
    split at h
    · exact h.elim
    · rename_i key hkey
      split at h
      · exact h.elim
      · rename_i hok
        simp only [opTmpsK_eq, keySlotsK_eq] at h ⊢
        split at h
        · rename_i pa px py hop
          split at h
          · rename_i ta d hdst
            split at h
            · rename_i b hb
              split at h
              · rename_i hv hpick
                rw [fHV_eq] at h
                obtain ⟨h1, h2⟩ := vcDrawF_draw os (i + 1) _ _ _ hd' h
                obtain ⟨h3, h4⟩ := confAll_cons h1 hoi
                refine ⟨h4, ?_⟩
                simp only [fHV_eq, h3]
                exact h2
              · exact h.elim
            · exact h.elim
          · exact h.elim
        · rename_i hnp
          rw [rhosK_eq, idssK_eq, resK_eq] at h
          split at h
          · rename_i hv upd nx' pre hvop
            rw [fHV_eq] at h
            split at h
            · rename_i hkd
              rw [addRhK_eq] at h
              have hm : (match o.dst with
                | none => vcDrawF c N e hp nx all os (i + 1) ((i, ⟨o.dst, key, hv, upd, keySlots key ++ opTmps o.op.operands.toList, idsHVs (lookHs o.op (o.op.operands.toList.map (rho e re key))) ++ []⟩) :: done) re (addRh key upd rh) K
                | some d => vcDrawF c N e hp nx all os (i + 1) ((i, ⟨o.dst, key, hv, upd, keySlots key ++ opTmps o.op.operands.toList, idsHVs (lookHs o.op (o.op.operands.toList.map (rho e re key))) ++ []⟩) :: done) ((d, key, hv) :: re) (addRh key upd rh) K) =
                vcDrawF c N e hp nx all os (i + 1) ((i, ⟨o.dst, key, hv, upd, keySlots key ++ opTmps o.op.operands.toList, idsHVs (lookHs o.op (o.op.operands.toList.map (rho e re key))) ++ []⟩) :: done) (match o.dst with
                | none => re
                | some d => (d, key, hv) :: re) (addRh key upd rh) K := by
                cases o.dst <;> rfl
              rw [hm] at h
              have key2 : ∀ h0 : vcDrawF c N e hp nx all os (i + 1) ((i, ⟨o.dst, key, hv, upd, keySlots key ++ opTmps o.op.operands.toList, idsHVs (lookHs o.op (o.op.operands.toList.map (rho e re key))) ++ []⟩) :: done) (match o.dst with
                | none => re
                | some d => (d, key, hv) :: re) (addRh key upd rh) K, _ := fun h0 => vcDrawF_draw os (i + 1) _ _ _ hd' h0
              have h0 : vcDrawF c N e hp nx all os (i + 1) ((i, ⟨o.dst, key, hv, upd, keySlots key ++ opTmps o.op.operands.toList, idsHVs (lookHs o.op (o.op.operands.toList.map (rho e re key))) ++ []⟩) :: done) (match o.dst with
                | none => re
                | some d => (d, key, hv) :: re) (addRh key upd rh) K := by
                unfold preAnd at h
                cases pre with
                | none => exact h
                | some p => exact h.2
              obtain ⟨h1, h2⟩ := key2 h0
              obtain ⟨h3, h4⟩ := confAll_cons h1 hoi
              refine ⟨h4, ?_⟩
              have e1 : (keyedOK key (nx + 2 * i) upd && confOK all o ⟨o.dst, key, hv, upd, keySlots key ++ opTmps o.op.operands.toList, idsHVs (lookHs o.op (o.op.operands.toList.map (rho e re key))) ++ []⟩ done) = true := by rw [hkd, h3]; rfl
              rw [rhosK_eq, idssK_eq, resK_eq, hvop]
              simp only [fHV_eq]
              rw [e1]
              simp only [addRhK_eq]
              unfold preAnd at h ⊢
              cases pre with
              | none => exact h2
              | some p => exact ⟨h.1, h2⟩
            · exact h.elim
          · exact h.elim
end Go.Vm

noncomputable section
namespace Go.Vm
open Go
open Classical

def reAt (R : Nat → Rec) (L : Nat → Bool) : Nat → REnv
  | 0 => []
  | k + 1 => if L k = true then addRe (R k).dst (R k).key (R k).hv (reAt R L k) else reAt R L k
def rhAt (R : Nat → Rec) (L : Nat → Bool) : Nat → RH
  | 0 => []
  | k + 1 => if L k = true then addRh (R k).key (R k).upd (rhAt R L k) else rhAt R L k

def every : Nat → Bool := fun _ => true

theorem lk_addRe {dst : Option Nat} {key : Key} {hv : HV} {re : REnv} {t : Nat} : lk (addRe dst key hv re) t = if dst = some t then some (key, hv) else lk re t := by
  unfold addRe
  split
  · simp
  · rw [lk_cons]; simp

theorem reAt_skip {R : Nat → Rec} {L : Nat → Bool} {t i : Nat} : ∀ (k : Nat), i ≤ k → (∀ j, i ≤ j → j < k → (R j).dst = some t → L j = false) → lk (reAt R L k) t = lk (reAt R L i) t
  | 0, hik, _ => by
    have : i = 0 := by omega
    subst this; rfl
  | k + 1, hik, h => by
    by_cases he : i = k + 1
    · subst he; rfl
    · have ih := reAt_skip k (by omega) fun j h1 h2 h3 => h j h1 (by omega) h3
      simp only [reAt]
      split
      · rename_i hL
        rw [lk_addRe, if_neg, ih]
        intro hd
        have := h k (by omega) (by omega) hd
        rw [hL] at this; cases this
      · exact ih

theorem reAt_same {R : Nat → Rec} {L : Nat → Bool} {t : Nat} : ∀ (k : Nat), (∀ j, j < k → (R j).dst = some t → L j = true) → lk (reAt R L k) t = lk (reAt R every k) t
  | 0, _ => rfl
  | k + 1, h => by
    have ih := reAt_same k fun j h1 h2 => h j (by omega) h2
    simp only [reAt, every, if_true]
    rw [lk_addRe]
    by_cases hd : (R k).dst = some t
    · rw [if_pos (h k (by omega) hd), lk_addRe, if_pos hd, if_pos hd]
    · rw [if_neg hd]
      split
      · rw [lk_addRe, if_neg hd, ih]
      · rw [ih]

theorem reAt_mem {R : Nat → Rec} {L : Nat → Bool} {t : Nat} {k : Key} {h : HV} : ∀ (n : Nat), lk (reAt R L n) t = some (k, h) → ∃ j, j < n ∧ L j = true ∧ (R j).dst = some t ∧ (R j).key = k ∧ (R j).hv = h
  | 0, hl => by simp [reAt, lk] at hl
  | n + 1, hl => by
    simp only [reAt] at hl
    split at hl
    · rename_i hL
      rw [lk_addRe] at hl
      split at hl
      · rename_i hd
        simp only [Option.some.injEq, Prod.mk.injEq] at hl
        exact ⟨n, by omega, hL, hd, hl.1, hl.2⟩
      · obtain ⟨j, h1, h2⟩ := reAt_mem n hl
        exact ⟨j, by omega, h2⟩
    · obtain ⟨j, h1, h2⟩ := reAt_mem n hl
      exact ⟨j, by omega, h2⟩

theorem keyFree_all {d : Nat} : ∀ {re : REnv}, keyFree d re = true → ∀ x ∈ re, ∀ y ∈ x.2.1, y.1 ≠ d
  | [], _, x, hx => by simp at hx
  | (t, k, h) :: re, hf, x, hx => by
    simp only [keyFree, Bool.and_eq_true, Bool.not_eq_true'] at hf
    rcases List.mem_cons.1 hx with rfl | hx
    · exact keySlot_spec hf.1
    · exact keyFree_all hf.2 x hx

theorem reAt_every (R : Nat → Rec) (n : Nat) : reAt R every (n + 1) = addRe (R n).dst (R n).key (R n).hv (reAt R every n) := by rw [reAt, if_pos (show every n = true from rfl)]
theorem rhAt_every (R : Nat → Rec) (n : Nat) : rhAt R every (n + 1) = addRh (R n).key (R n).upd (rhAt R every n) := by rw [rhAt, if_pos (show every n = true from rfl)]

theorem reAt_has {R : Nat → Rec} {t j : Nat} (hd : (R j).dst = some t) : ∀ (n : Nat), j < n → (t, (R j).key, (R j).hv) ∈ reAt R every n
  | 0, h => by omega
  | n + 1, h => by
    rw [reAt_every]
    by_cases hj : j = n
    · subst hj; rw [hd]; simp [addRe]
    · have := reAt_has hd n (by omega)
      cases hdn : (R n).dst with
      | none => simpa [addRe] using this
      | some d => simp only [addRe]; exact List.mem_cons_of_mem _ this

/-! ### The objects -/
/-- The objects as they stand: what was made under a key that does not hold is not there. -/
def hAt (tmps : Array Value) : RH → Hp → Hp
  | [], hp => hp
  | (o, k, vo) :: rh, hp => if KeyHolds tmps k then (o, vo) :: hAt tmps rh hp else hAt tmps rh hp

theorem hAt_addRh_holds {tmps : Array Value} {key : Key} (hk : KeyHolds tmps key) : ∀ (upd : List (Nat × VO)) (rh : RH) (hp : Hp), hAt tmps (addRh key upd rh) hp = upd ++ hAt tmps rh hp
  | [], _, _ => rfl
  | (o, vo) :: upd, rh, hp => by simp only [addRh, hAt, if_pos hk, List.cons_append, hAt_addRh_holds hk upd]
theorem hAt_addRh_not {tmps : Array Value} {key : Key} (hk : ¬ KeyHolds tmps key) : ∀ (upd : List (Nat × VO)) (rh : RH) (hp : Hp), hAt tmps (addRh key upd rh) hp = hAt tmps rh hp
  | [], _, _ => rfl
  | (o, vo) :: upd, rh, hp => by simp only [addRh, hAt, if_neg hk, hAt_addRh_not hk upd]

theorem lk_append {α : Type} : ∀ (a b : List (Nat × α)) (o : Nat), lk (a ++ b) o = match lk a o with
    | some v => some v
    | none => lk b o
  | [], b, o => rfl
  | (k, v) :: a, b, o => by
    simp only [List.cons_append, lk_cons]
    by_cases h : k = o
    · simp [h]
    · simp only [if_neg h]; exact lk_append a b o

theorem lk_none_iff {α : Type} {o : Nat} : ∀ {a : List (Nat × α)}, lk a o = none ↔ ∀ x ∈ a, x.1 ≠ o
  | [] => by simp [lk]
  | (k, v) :: a => by
    rw [lk_cons]
    by_cases h : k = o
    · simp [h]
    · rw [if_neg h, lk_none_iff (a := a)]
      simp [h]

/-- The objects that an operation turns. -/
def turns (r : Rec) (o : Nat) : Prop := lk r.upd o ≠ none

theorem lk_addRh {key : Key} {o : Nat} : ∀ (upd : List (Nat × VO)) (rh : RH), lk (addRh key upd rh) o = match lk upd o with
    | some vo => some (key, vo)
    | none => lk rh o
  | [], rh => rfl
  | (k, vo) :: upd, rh => by
    simp only [addRh, lk_cons]
    by_cases h : k = o
    · simp [h]
    · simp only [if_neg h]; exact lk_addRh upd rh

theorem rhAt_skip {R : Nat → Rec} {L : Nat → Bool} {o i : Nat} : ∀ (k : Nat), i ≤ k → (∀ j, i ≤ j → j < k → turns (R j) o → L j = false) → lk (rhAt R L k) o = lk (rhAt R L i) o
  | 0, hik, _ => by
    have : i = 0 := by omega
    subst this; rfl
  | k + 1, hik, h => by
    by_cases he : i = k + 1
    · subst he; rfl
    · have ih := rhAt_skip k (by omega) fun j h1 h2 h3 => h j h1 (by omega) h3
      simp only [rhAt]
      split
      · rename_i hL
        rw [lk_addRh]
        cases hd : lk (R k).upd o with
        | some vo =>
          have := h k (by omega) (by omega) (by unfold turns; rw [hd]; simp)
          rw [hL] at this; cases this
        | none => exact ih
      · exact ih

theorem rhAt_same {R : Nat → Rec} {L : Nat → Bool} {o : Nat} : ∀ (k : Nat), (∀ j, j < k → turns (R j) o → L j = true) → lk (rhAt R L k) o = lk (rhAt R every k) o
  | 0, _ => rfl
  | k + 1, h => by
    have ih := rhAt_same k fun j h1 h2 => h j (by omega) h2
    simp only [rhAt, every, if_true]
    rw [lk_addRh]
    cases hd : lk (R k).upd o with
    | some vo => rw [if_pos (h k (by omega) (by unfold turns; rw [hd]; simp)), lk_addRh, hd]
    | none =>
      split
      · rw [lk_addRh, hd]; exact ih
      · exact ih

theorem rhAt_mem {R : Nat → Rec} {L : Nat → Bool} : ∀ (n : Nat), ∀ x ∈ rhAt R L n, ∃ j, j < n ∧ L j = true ∧ turns (R j) x.1 ∧ (R j).key = x.2.1
  | 0, x, hx => by simp [rhAt] at hx
  | n + 1, x, hx => by
    simp only [rhAt] at hx
    split at hx
    · rename_i hL
      have : x ∈ rhAt R L n ∨ (turns (R n) x.1 ∧ (R n).key = x.2.1) := by
        generalize rhAt R L n = rh at hx
        have : ∀ (upd : List (Nat × VO)), x ∈ addRh (R n).key upd rh → x ∈ rh ∨ (lk upd x.1 ≠ none ∧ (R n).key = x.2.1) := by
          intro upd
          induction upd with
          | nil => intro h; exact .inl h
          | cons u upd ih =>
            intro h
            obtain ⟨o, vo⟩ := u
            simp only [addRh] at h
            rcases List.mem_cons.1 h with rfl | h
            · exact .inr ⟨by rw [lk_cons]; simp, rfl⟩
            · rcases ih h with h1 | ⟨h1, h2⟩
              · exact .inl h1
              · refine .inr ⟨?_, h2⟩
                rw [lk_cons]
                split
                · simp
                · exact h1
        exact this _ hx
      rcases this with h | ⟨h1, h2⟩
      · obtain ⟨j, k1, k2⟩ := rhAt_mem n x h
        exact ⟨j, by omega, k2⟩
      · exact ⟨n, by omega, hL, h1, h2⟩
    · obtain ⟨j, k1, k2⟩ := rhAt_mem n x hx
      exact ⟨j, by omega, k2⟩

theorem hAt_congr {tmps tmps' : Array Value} {hp : Hp} : ∀ (rh : RH), (∀ x ∈ rh, (KeyHolds tmps' x.2.1 ↔ KeyHolds tmps x.2.1)) → hAt tmps' rh hp = hAt tmps rh hp
  | [], _ => rfl
  | (o, k, vo) :: rh, h => by
    have h1 := h (o, k, vo) (by simp)
    have ih := hAt_congr (hp := hp) rh fun x hx => h x (by simp [hx])
    simp only [hAt, ih, h1]

/-- An object whose first record holds. -/
theorem lk_hAt_some {tmps : Array Value} {hp : Hp} {o : Nat} {k : Key} {vo : VO} : ∀ {rh : RH}, lk rh o = some (k, vo) → KeyHolds tmps k → lk (hAt tmps rh hp) o = some vo
  | [], h, _ => by simp [lk] at h
  | (o', k', vo') :: rh, h, hk => by
    rw [lk_cons] at h
    simp only [hAt]
    split at h
    · rename_i e; subst e
      simp only [Option.some.injEq, Prod.mk.injEq] at h
      obtain ⟨rfl, rfl⟩ := h
      rw [if_pos hk, lk_cons, if_pos rfl]
    · rename_i e
      have ih := lk_hAt_some (hp := hp) h hk
      split
      · rw [lk_cons, if_neg e, ih]
      · exact ih
theorem lk_hAt_none {tmps : Array Value} {hp : Hp} {o : Nat} : ∀ {rh : RH}, lk rh o = none → lk (hAt tmps rh hp) o = lk hp o
  | [], _ => rfl
  | (o', k', vo') :: rh, h => by
    rw [lk_cons] at h
    simp only [hAt]
    split at h
    · cases h
    · rename_i e
      have ih := lk_hAt_none (tmps := tmps) (hp := hp) h
      split
      · rw [lk_cons, if_neg e, ih]
      · exact ih

/-- One more operation of the list: what is looked up is as if it came last. -/
theorem hAt_insert {R : Nat → Rec} {L L' : Nat → Bool} {i : Nat} {tmps : Array Value} {hp : Hp} (hL : ∀ j, j ≠ i → L' j = L j) (hi : L i = false) (hi' : L' i = true) (o : Nat) :
    ∀ (n : Nat), i < n → (∀ j, i < j → j < n → L j = true → ∀ o, turns (R i) o → ¬ turns (R j) o) →
      lk (hAt tmps (rhAt R L' n) hp) o = lk (if KeyHolds tmps (R i).key then (R i).upd ++ hAt tmps (rhAt R L n) hp else hAt tmps (rhAt R L n) hp) o
  | 0, h, _ => by omega
  | n + 1, h, hdis => by
    by_cases hin : i = n
    · subst hin
      have hbelow : ∀ k, k ≤ i → rhAt R L' k = rhAt R L k := by
        intro k
        induction k with
        | zero => intro _; rfl
        | succ k ih => intro hk; simp only [rhAt, hL k (by omega), ih (by omega)]
      simp only [rhAt, hi, hi', if_true, Bool.false_eq_true, if_false, hbelow i (Nat.le_refl _)]
      split
      · rename_i hk; rw [hAt_addRh_holds hk]
      · rename_i hk; rw [hAt_addRh_not hk]
    · have ih := hAt_insert (tmps := tmps) (hp := hp) hL hi hi' o n (by omega) fun j h1 h2 h3 => hdis j h1 (by omega) h3
      simp only [rhAt, hL n (Ne.symm hin)]
      by_cases hLn : L n = true
      · simp only [if_pos hLn]
        have hd := hdis n (by omega) (by omega) hLn
        by_cases hkn : KeyHolds tmps (R n).key
        · rw [hAt_addRh_holds hkn, hAt_addRh_holds hkn, lk_append, ih]
          split
          · rename_i v hv
            have hnot : lk (R i).upd o = none := by
              cases h9 : lk (R i).upd o with
              | none => rfl
              | some v9 => exact absurd (by unfold turns; rw [hv]; simp) (hd o (by unfold turns; rw [h9]; simp))
            split
            · rw [lk_append, hnot, lk_append, hv]
            · rw [lk_append, hv]
          · rename_i hv
            split
            · rw [lk_append, lk_append]
              split
              · rfl
              · rw [lk_append, hv]
            · rw [lk_append, hv]
        · rw [hAt_addRh_not hkn, hAt_addRh_not hkn]; exact ih
      · simp only [if_neg hLn]; exact ih

theorem reAt_insert {R : Nat → Rec} {L L' : Nat → Bool} {i : Nat} (hL : ∀ j, j ≠ i → L' j = L j) (hi : L i = false) (hi' : L' i = true) (t : Nat) :
    ∀ (n : Nat), i < n → (∀ j, i < j → j < n → L j = true → ∀ d, (R i).dst = some d → (R j).dst ≠ some d) →
      lk (reAt R L' n) t = lk (addRe (R i).dst (R i).key (R i).hv (reAt R L n)) t
  | 0, h, _ => by omega
  | n + 1, h, hdis => by
    by_cases hin : i = n
    · subst hin
      have hbelow : ∀ k, k ≤ i → reAt R L' k = reAt R L k := by
        intro k
        induction k with
        | zero => intro _; rfl
        | succ k ih => intro hk; simp only [reAt, hL k (by omega), ih (by omega)]
      simp only [reAt, hi, hi', if_true, Bool.false_eq_true, if_false, hbelow i (Nat.le_refl _)]
    · have ih := reAt_insert hL hi hi' t n (by omega) fun j h1 h2 h3 => hdis j h1 (by omega) h3
      simp only [reAt, hL n (Ne.symm hin)]
      by_cases hLn : L n = true
      · simp only [if_pos hLn]
        have hd := hdis n (by omega) (by omega) hLn
        rw [lk_addRe, lk_addRe, ih, lk_addRe, lk_addRe]
        by_cases h1 : (R n).dst = some t
        · rw [if_pos h1, if_pos h1, if_neg]
          intro h2
          exact hd t h2 h1
        · rw [if_neg h1, if_neg h1]
      · simp only [if_neg hLn]; exact ih
end Go.Vm
