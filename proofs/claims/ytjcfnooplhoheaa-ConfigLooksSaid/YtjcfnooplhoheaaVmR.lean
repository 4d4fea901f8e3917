/- A region, operation by operation. -/
import Derived.Test.YtjcfnooplhoheaaVmQ
noncomputable section
namespace Go.Vm
open Go

/-- Under which guards a value was made: the guard's temporary, the answer that is wanted, and the answer that it gives. -/
abbrev Key := List (Nat × Bool × Bool)
abbrev REnv := List (Nat × Key × HV)
abbrev Env := List (Nat × HV)

def memK (s : Nat) (b : Bool) (al : Key) : Bool :=
  @List.rec (Nat × Bool × Bool) (fun _ => Bool) false (fun p _ ih => match p with
    | (s', b', _) => (Nat.beq s s' && (b == b')) || ih) al
/-- What is made under k may be read under al. -/
def keyLe (k al : Key) : Bool :=
  @List.rec (Nat × Bool × Bool) (fun _ => Bool) true (fun p _ ih => match p with
    | (s, b, _) => memK s b al && ih) k

def KeyCond : Key → Prop
  | [] => True
  | [(_, b, x)] => x = b
  | (_, b, x) :: k => x = b ∧ KeyCond k

def keySlot (d : Nat) (k : Key) : Bool :=
  @List.rec (Nat × Bool × Bool) (fun _ => Bool) false (fun p _ ih => match p with
    | (s, _, _) => Nat.beq d s || ih) k
/-- No value hangs on this temporary. -/
def keyFree (d : Nat) (re : REnv) : Bool :=
  @List.rec (Nat × Key × HV) (fun _ => Bool) true (fun p _ ih => match p with
    | (_, k, _) => !keySlot d k && ih) re

def rho (e : Env) (re : REnv) (al : Key) : Operand → HV
  | .tmp t => match lk re t with
    | some (k, h) => match keyLe k al with
      | true => h
      | false => .und
    | none => match lk e t with
      | some h => h
      | none => .und
  | .const v => cv v
  | .func f => .fn f []
  | .global _ => .und

/-- The key of an operation. -/
def keyOf (re : REnv) (all : List Oper) : Option (Nat × Bool) → Option Key
  | none => some []
  | some (j, want) => match all[j]? with
    | some oj => match oj.dst with
      | some s => match lk re s with
        | some (k, .dat .bool d) => some ((s, want, d.bool) :: k)
        | _ => none
      | none => none
    | none => none

def pickHV (x : Bool) (ox oy : Operand) (hx hy : HV) : Option HV :=
  match ox, oy with
  | .const (.bool true), _ => match hy with
    | .dat .bool e => some (.dat .bool (.B (x || e.bool)))
    | _ => none
  | _, .const (.bool false) => match hx with
    | .dat .bool d => some (.dat .bool (.B (x && d.bool)))
    | _ => none
  | _, _ => match hx, hy with
    | .dat .bool d, .dat .bool e => some (.dat .bool (.B (match x with | true => d.bool | false => e.bool)))
    | .dat (.int k) d, .dat (.int k') e => match decide (k = k') with
      | true => some (.dat (.int k) (.I (match x with | true => d.int | false => e.int)))
      | false => none
    | _, _ => none

def imp' (k : Key) (p : Prop) : Prop := match k with
  | [] => p
  | k => KeyCond k → p

/-- A value, written out as far as its form. -/
def fHV0 (h : HV) (K : HV → Prop) : Prop := match h with
  | .dat s d => K (.dat s d)
  | .ptr o r p s => K (.ptr o r p s)
  | .own o s => K (.own o s)
  | .gptr s d => K (.gptr s d)
  | .fn f cs => K (.fn f cs)
  | .st ss fs => K (.st ss fs)
  | .tup vs => K (.tup vs)
  | .cst v => K (.cst v)
  | .yld o => K (.yld o)
  | .mp o ks vs => K (.mp o ks vs)
  | .mit o => K (.mit o)
  | .und => K .und
theorem fHV0_eq (h : HV) (K : HV → Prop) : fHV0 h K = K h := by cases h <;> rfl
def fHVs (hs : List HV) : (List HV → Prop) → Prop :=
  @List.rec HV (fun _ => (List HV → Prop) → Prop) (fun K => K []) (fun h _ ih K => fHV0 h fun h => ih fun hs => K (h :: hs)) hs
theorem fHVs_eq : ∀ (hs : List HV) (K : List HV → Prop), fHVs hs K = K hs
  | [], _ => rfl
  | h :: hs, K => by show fHV0 h (fun h => fHVs hs fun hs => K (h :: hs)) = _; rw [fHV0_eq, fHVs_eq hs]
/-- Its parts, too. -/
def fHV (h : HV) (K : HV → Prop) : Prop := match h with
  | .dat s d => K (.dat s d)
  | .ptr o r p s => K (.ptr o r p s)
  | .own o s => K (.own o s)
  | .gptr s d => K (.gptr s d)
  | .fn f cs => fHVs cs fun cs => K (.fn f cs)
  | .st ss fs => fHVs fs fun fs => K (.st ss fs)
  | .tup vs => fHVs vs fun vs => K (.tup vs)
  | .cst v => K (.cst v)
  | .yld o => K (.yld o)
  | .mp o ks vs => K (.mp o ks vs)
  | .mit o => K (.mit o)
  | .und => K .und
theorem fHV_eq (h : HV) (K : HV → Prop) : fHV h K = K h := by cases h <;> simp only [fHV, fHVs_eq]
/-- The operands' values. -/
def argsK (e : Env) (re : REnv) (xs : List Operand) : (List HV → Prop) → Prop :=
  @List.rec Operand (fun _ => (List HV → Prop) → Prop) (fun K => K []) (fun x _ ih K => fHV (rho e re [] x) fun h => ih fun hs => K (h :: hs)) xs
theorem argsK_eq (e : Env) (re : REnv) : ∀ (xs : List Operand) (K : List HV → Prop), argsK e re xs K = K (xs.map (rho e re []))
  | [], _ => rfl
  | x :: xs, K => by show fHV (rho e re [] x) (fun h => argsK e re xs fun hs => K (h :: hs)) = _; rw [fHV_eq, argsK_eq e re xs]; rfl
def fU (u : Nat × VO) (K : Nat × VO → Prop) : Prop := match u with
  | (o, .box s v) => fHV v fun v => K (o, .box s v)
  | (o, .grow s xs) => K (o, .grow s xs)
  | (o, .loop st) => K (o, .loop st)
  | (o, .map ks vs es) => K (o, .map ks vs es)
  | (o, .iter om since last seen) => K (o, .iter om since last seen)
  | (o, .vec fs) => fHVs fs fun fs => K (o, .vec fs)
  | (o, .froz s xs) => K (o, .froz s xs)
  | (o, .dead) => K (o, .dead)
theorem fU_eq (u : Nat × VO) (K : Nat × VO → Prop) : fU u K = K u := by
  obtain ⟨o, vo⟩ := u
  cases vo <;> simp only [fU, fHV_eq, fHVs_eq]

/-- What an operation has made is put in. -/
def applyEf (N : Nat) (re : REnv) (hp : Hp) (key : Key) (hv : HV) (upd : List (Nat × VO)) (nx : Nat) (K : REnv → Hp → Nat → Prop) : Option Nat → Prop
  | none => match upd with
    | [] => K re hp nx
    | [u] => fU u fun u => K re (u :: hp) nx
    | _ => False
  | some d => match Nat.blt d N && keyFree d re && !keySlot d key with
    | false => False
    | true => match upd with
      | [] => K ((d, key, hv) :: re) hp nx
      | [u] => fU u fun u => K ((d, key, hv) :: re) (u :: hp) nx
      | [u, u'] => K ((d, key, hv) :: re) (u :: u' :: hp) nx
      | _ => False

/-- What an operation asks. -/
def guardEf (key : Key) (pre : Option Prop) (upd : List (Nat × VO)) (dst : Option Nat) (go : Prop) : Prop := match key with
  | [] => match pre with
    | none => go
    | some p => p ∧ go
  | k => match upd, dst with
    | [], some _ => match pre with
      | none => go
      | some p => imp' k p ∧ go
    | _, _ => KeyCond k ∧ holds pre ∧ go

/-- What is called: a function, or the body of a loop over a function. -/
inductive Cal where
  | fn (n : Nat) | yl (o : Nat)

/-- A step of a range over a map: any entry that was not seen yet; or the end, when all that were there at first were seen. -/
def nextK (hp : Hp) (h : HV) (K : HV → Hp → Prop) : Prop := match h with
  | .mit oi => match lk hp oi with
    | some (.iter om since _ seen) => match lk hp om with
      | some (.map ks vs es) => (∀ i, i < es.length → i ∉ seen → K (.tup [.dat .bool (.B true), .dat ks (es.getD i (.Z, .Z)).1, .dat vs (es.getD i (.Z, .Z)).2]) ((oi, .iter om since es.length (seen ++ [i])) :: hp)) ∧
        ((∀ i, i < es.length → i < since → i ∈ seen) → K (.tup [.dat .bool (.B false)]) hp)
      | _ => False
    | _ => False
  | _ => False

/-- 'xs == nil' and 'xs != nil': whether a slice without elements is nil is not known. -/
def nilK (c : Ctx) (op : BinOp) (t : Nat) (x : HV) (y : Operand) (K : HV → Prop) : Prop := match op, y, x, lk c.tab t with
  | .eql, .const (.slice none _ _), .dat (.slice _) d, some (.slice _) => ∀ b : Bool, (b = true → d.list = []) → K (.dat .bool (.B b))
  | .neq, .const (.slice none _ _), .dat (.slice _) d, some (.slice _) => ∀ b : Bool, (b = false → d.list = []) → K (.dat .bool (.B b))
  | _, _, _, _ => False

/-- One operation of a region. inl: how a call of a function without a summary, or of yield, is taken; ih: what follows. -/
def vcOpsS (c : Ctx) (inl : Cal → List HV → Hp → Nat → (HV → Hp → Nat → Prop) → Prop) (N : Nat) (e : Env) (all : List Oper) (o : Oper) (ih : REnv → Hp → Nat → (REnv → Hp → Nat → Prop) → Prop) (re : REnv) (hp : Hp) (nx : Nat) (K : REnv → Hp → Nat → Prop) : Prop :=
  match keyOf re all o.guard with
    | none => False
    | some key => match o.op with
      | .pick a x y => match o.dst with
        | none => False
        | some d => match Nat.blt d N && keyFree d re && !keySlot d key with
          | false => False
          | true => match a with
            | .tmp ta => match rho e re key a with
              | .dat .bool b => match pickHV b.bool x y (rho e re ((ta, true, b.bool) :: key) x) (rho e re ((ta, false, b.bool) :: key) y) with
                | some h => fHV h fun h => ih ((d, key, h) :: re) hp nx K
                | none => False
              | _ => False
            | _ => False
      | _ => match vop c nx (rho e re key) hp o.type o.op with
        | some ⟨hv, upd, nx', pre⟩ => guardEf key pre upd o.dst (fHV hv fun hv => applyEf N re hp key hv upd nx' (fun re hp nx => ih re hp nx K) o.dst)
        | none => match o.op, key with
          | .call ⟨.value f, args, _⟩, [] => match rho e re [] f with
            | .fn n caps => argsK e re args.toList fun hs => inl (.fn n) (hs ++ caps) hp nx fun h hp' nx' => fHV h fun h => match o.dst with
              | none => ih re hp' nx' K
              | some d => match Nat.blt d N && keyFree d re with
                | true => ih ((d, [], h) :: re) hp' nx' K
                | false => False
            | .yld y => argsK e re args.toList fun hs => inl (.yl y) hs hp nx fun h hp' nx' => fHV h fun h => match o.dst with
              | none => ih re hp' nx' K
              | some d => match Nat.blt d N && keyFree d re with
                | true => ih ((d, [], h) :: re) hp' nx' K
                | false => False
            | _ => False
          | .next x s, [] => match s, o.dst with
            | false, some d => match Nat.blt d N && keyFree d re with
              | true => nextK hp (rho e re [] x) fun h hp' => ih ((d, [], h) :: re) hp' nx K
              | false => False
            | _, _ => False
          | .binOp op t x y _, [] => match o.dst with
            | some d => match Nat.blt d N && keyFree d re with
              | true => nilK c op t (rho e re [] x) y fun h => ih ((d, [], h) :: re) hp nx K
              | false => False
            | none => False
          | _, _ => False

/-- The operations of a region, in the order of the text. -/
def vcOps (c : Ctx) (inl : Cal → List HV → Hp → Nat → (HV → Hp → Nat → Prop) → Prop) (N : Nat) (e : Env) (all os : List Oper) : REnv → Hp → Nat → (REnv → Hp → Nat → Prop) → Prop :=
  @List.rec Oper (fun _ => REnv → Hp → Nat → (REnv → Hp → Nat → Prop) → Prop) (fun re hp nx K => K re hp nx) (fun o _ ih => vcOpsS c inl N e all o ih) os
theorem vcOps_cons (c : Ctx) (inl : Cal → List HV → Hp → Nat → (HV → Hp → Nat → Prop) → Prop) (N : Nat) (e : Env) (all : List Oper) (o : Oper) (os : List Oper) : vcOps c inl N e all (o :: os) = vcOpsS c inl N e all o (vcOps c inl N e all os) := rfl

/-! ### What the environments say of a frame -/
def KeyHolds (tmps : Array Value) (k : Key) : Prop := ∀ x ∈ k, tmps.getD x.1 undef = .bool x.2.1

/-- Where a function began: how many blocks lay when the account began, and what was known when the function began. -/
structure MB where
  n : Nat
  gh : Ghost

/-- The marks of loops over functions, laid since the function began. -/
def Marks (B : MB) (g : Ghost) : List Deferred → Prop
  | [] => True
  | d :: ds => (∃ k, d = { target := .collected k, args := #[] } ∧ (B.n ≤ k ∧ B.gh k = none) ∧ g k = some (.deferred (some [])) ∧ ∀ d' ∈ ds, d'.target ≠ .collected k) ∧ Marks B g ds
theorem Marks.mono {B : MB} {g g' : Ghost} (hg : g.le g') : ∀ {ds : List Deferred}, Marks B g ds → Marks B g' ds
  | [], _ => trivial
  | _ :: _, ⟨⟨k, h1, h2, h3, h4⟩, h⟩ => ⟨⟨k, h1, h2, hg _ _ h3, h4⟩, Marks.mono hg h⟩

structure FRel (B : MB) (g : Ghost) (loc : Loc) (N : Nat) (e : Env) (re : REnv) (a : Act) : Prop where
  size : a.tmps.size = N
  defers : Marks B g a.defers
  old : B.gh.le g
  base : ∀ t h, lk re t = none → lk e t = some h → HRel g loc h (a.tmps.getD t undef)
  reg : ∀ t k h, lk re t = some (k, h) → (KeyHolds a.tmps k → HRel g loc h (a.tmps.getD t undef)) ∧ (¬ KeyHolds a.tmps k → a.tmps.getD t undef = undef)
  keys : ∀ t k h, lk re t = some (k, h) → ∀ s b x k', k = (s, b, x) :: k' → ∃ d, lk re s = some (k', .dat .bool d) ∧ d.bool = x

theorem FRel.mono {B : MB} {g g' : Ghost} {loc loc' : Loc} {N : Nat} {e : Env} {re : REnv} {a : Act} (hg : g.le g') (hl : loc.le loc') (h : FRel B g loc N e re a) : FRel B g' loc' N e re a where
  size := h.size
  defers := h.defers.mono hg
  old := Ghost.le_trans h.old hg
  base := fun t k h1 h2 => (h.base t k h1 h2).mono hg hl
  reg := fun t k hv h1 => ⟨fun h2 => ((h.reg t k hv h1).1 h2).mono hg hl, (h.reg t k hv h1).2⟩
  keys := h.keys

theorem getD_set_same (ts : Array Value) (d : Nat) (v : Value) (h : d < ts.size) : (ts.setIfInBounds d v).getD d undef = v := by
  simp [Array.getD_eq_getD_getElem?, h]
theorem getD_set_ne' (ts : Array Value) (d t : Nat) (v : Value) (h : t ≠ d) : (ts.setIfInBounds d v).getD t undef = ts.getD t undef := by
  simp [Array.getD_eq_getD_getElem?, Ne.symm h]

theorem memK_spec {s : Nat} {b : Bool} : ∀ {al : Key}, memK s b al = true → ∃ x, (s, b, x) ∈ al
  | (s', b', x') :: al, h => by
    simp only [memK, Bool.or_eq_true, Bool.and_eq_true, beq_iff_eq] at h
    rcases h with ⟨h1, h2⟩ | h
    · exact ⟨x', by rw [Nat.eq_of_beq_eq_true h1, h2]; simp⟩
    · obtain ⟨x, hx⟩ := memK_spec h
      exact ⟨x, by simp [hx]⟩
  | [], h => by simp [memK] at h

theorem keyLe_holds {tmps : Array Value} : ∀ {k al : Key}, keyLe k al = true → KeyHolds tmps al → KeyHolds tmps k
  | [], _, _, _ => fun x hx => by simp at hx
  | (s, b, y) :: k, al, h, ha => by
    simp only [keyLe, Bool.and_eq_true] at h
    obtain ⟨x, hx⟩ := memK_spec h.1
    intro z hz
    rcases List.mem_cons.1 hz with rfl | hz
    · show tmps.getD s undef = .bool b
      exact ha (s, b, x) hx
    · exact keyLe_holds h.2 ha z hz

section
variable {B : MB} {P : Program} {c : Ctx} {g : Ghost} {loc : Loc} {w0 : Base} {w : World} {hp : Hp} {nx N : Nat} {e : Env} {re : REnv} {a : Act}

theorem rho_rel (F : FRel B g loc N e re a) {al : Key} (hal : KeyHolds a.tmps al) (x : Operand) : HRel g loc (rho e re al x) (a.eval x) := by
  cases x with
  | tmp t =>
    simp only [rho, Act.eval]
    split
    · rename_i k h hk
      split
      · rename_i hle
        exact (F.reg t k h hk).1 (keyLe_holds hle hal)
      · exact trivial
    · rename_i hn
      split
      · rename_i h hh
        exact F.base t h hn hh
      · exact trivial
  | const v => exact cv_rel g loc v
  | func f =>
    have := fn_mk (g := g) (loc := loc) (f := f) (caps := []) (cs := []) (by simp only [HVs])
    exact this
  | global n => exact trivial

theorem keySlot_spec {d : Nat} : ∀ {k : Key}, keySlot d k = false → ∀ x ∈ k, x.1 ≠ d
  | [], _, _, hx => by simp at hx
  | (s, b, y) :: k, h, x, hx => by
    simp only [keySlot, Bool.or_eq_false_iff] at h
    rcases List.mem_cons.1 hx with rfl | hx
    · intro e
      simp only at e
      rw [e] at h
      simp at h
    · exact keySlot_spec h.2 x hx

theorem keyFree_spec {d : Nat} : ∀ {re : REnv}, keyFree d re = true → ∀ t k h, lk re t = some (k, h) → ∀ x ∈ k, x.1 ≠ d
  | [], _, _, _, _, h => by simp [lk] at h
  | (t', k', h') :: re, hf, t, k, h, hl => by
    simp only [keyFree, Bool.and_eq_true, Bool.not_eq_true'] at hf
    rw [lk_cons] at hl
    split at hl
    · simp only [Option.some.injEq, Prod.mk.injEq] at hl
      obtain ⟨rfl, rfl⟩ := hl
      exact keySlot_spec hf.1
    · exact keyFree_spec hf.2 t k h hl

theorem holds_put {tmps : Array Value} {d : Nat} {v : Value} {k : Key} (h : ∀ x ∈ k, x.1 ≠ d) : KeyHolds (tmps.setIfInBounds d v) k ↔ KeyHolds tmps k := by
  constructor
  · intro hk x hx
    have := hk x hx
    rwa [getD_set_ne' _ _ _ _ (h x hx)] at this
  · intro hk x hx
    rw [getD_set_ne' _ _ _ _ (h x hx)]; exact hk x hx

/-- The key of an operation: it is carried out just where the key holds. -/
theorem keyOf_wanted (F : FRel B g loc N e re a) {ops : List Oper} {gd : Option (Nat × Bool)} {key : Key} (hk : keyOf re ops gd = some key) (o : Oper) (ho : o.guard = gd) :
    (Region.wanted o (yielded ops.toArray a.tmps) = true ↔ KeyHolds a.tmps key) ∧ (∀ s b x k', key = (s, b, x) :: k' → ∃ d, lk re s = some (k', .dat .bool d) ∧ d.bool = x) := by
  cases gd with
  | none =>
    simp only [keyOf, Option.some.injEq] at hk
    subst hk
    refine ⟨⟨fun _ x hx => by simp at hx, fun _ => by simp [Region.wanted, ho]⟩, fun _ _ _ _ h => by cases h⟩
  | some jw =>
    obtain ⟨j, want⟩ := jw
    simp only [keyOf] at hk
    split at hk
    · rename_i oj hoj
      split at hk
      · rename_i s hs
        split at hk
        · rename_i k d hlk
          simp only [Option.some.injEq] at hk
          subst hk
          obtain ⟨h1, h2⟩ := F.reg _ _ _ hlk
          have hy : yielded ops.toArray a.tmps j = match a.tmps[s]? with | some (.bool b) => some b | _ => none := by
            have : ops.toArray[j]? = some oj := by simpa using hoj
            simp only [yielded, this, Option.bind_some, hs]
            rfl
          refine ⟨?_, fun s' b' x' k' h => by
            simp only [List.cons.injEq, Prod.mk.injEq] at h
            obtain ⟨⟨rfl, rfl, rfl⟩, rfl⟩ := h
            exact ⟨d, hlk, rfl⟩⟩
          simp only [Region.wanted, ho, hy]
          have hg : a.tmps.getD s undef = (a.tmps[s]?).getD undef := by simp [Array.getD_eq_getD_getElem?]
          constructor
          · intro hw
            have hs1 : a.tmps.getD s undef = .bool want := by
              rw [hg]
              cases hv : a.tmps[s]? with
              | none => rw [hv] at hw; simp at hw
              | some v =>
                rw [hv] at hw
                cases v <;> simp at hw
                simp [hw]
            have hkh : KeyHolds a.tmps k := by
              by_cases hkk : KeyHolds a.tmps k
              · exact hkk
              · have := h2 hkk
                rw [hs1] at this
                simp [undef] at this
            intro x hx
            rcases List.mem_cons.1 hx with rfl | hx
            · exact hs1
            · exact hkh x hx
          · intro hh
            have hs1 := hh (s, want, d.bool) (by simp)
            simp only at hs1
            rw [hg] at hs1
            cases hv : a.tmps[s]? with
            | none => rw [hv] at hs1; simp [undef] at hs1
            | some v => rw [hv] at hs1; simp only [Option.getD_some] at hs1; subst hs1; simp
        · cases hk
      · cases hk
    · cases hk

theorem keyCond_of (F : FRel B g loc N e re a) : ∀ {key : Key}, KeyHolds a.tmps key → (∀ s b x k', key = (s, b, x) :: k' → ∃ d, lk re s = some (k', .dat .bool d) ∧ d.bool = x) → KeyCond key
  | [], _, _ => trivial
  | (s, b, x) :: k, hh, hk => by
    obtain ⟨d, h1, h2⟩ := hk s b x k rfl
    have hkh : KeyHolds a.tmps k := fun y hy => hh y (by simp [hy])
    have h3 := ((F.reg _ _ _ h1).1 hkh).bool
    have h4 := hh (s, b, x) (by simp)
    simp only at h4
    rw [h4] at h3
    simp only [Value.bool.injEq] at h3
    have e1 : x = b := by rw [← h2, h3]
    cases k with
    | nil => exact e1
    | cons y k => exact ⟨e1, keyCond_of F hkh (F.keys _ _ _ h1)⟩

theorem keyHolds_of (F : FRel B g loc N e re a) : ∀ {key : Key}, KeyCond key → (∀ s b x k', key = (s, b, x) :: k' → ∃ d, lk re s = some (k', .dat .bool d) ∧ d.bool = x) → KeyHolds a.tmps key
  | [], _, _ => fun x hx => by simp at hx
  | (s, b, x) :: k, hc, hk => by
    obtain ⟨d, h1, h2⟩ := hk s b x k rfl
    have e1 : x = b := by
      cases k with
      | nil => exact hc
      | cons y k => exact hc.1
    have hck : KeyCond k := by
      cases k with
      | nil => trivial
      | cons y k => exact hc.2
    have hkh : KeyHolds a.tmps k := keyHolds_of F hck (F.keys _ _ _ h1)
    have h3 := ((F.reg _ _ _ h1).1 hkh).bool
    intro y hy
    rcases List.mem_cons.1 hy with rfl | hy
    · show a.tmps.getD s undef = .bool b
      rw [h3, h2, e1]
    · exact hkh y hy

theorem FRel.congr {re' : REnv} (he : ∀ t, lk re' t = lk re t) (F : FRel B g loc N e re a) : FRel B g loc N e re' a where
  size := F.size
  defers := F.defers
  old := F.old
  base := fun t h h1 h2 => F.base t h (by rw [← he]; exact h1) h2
  reg := fun t k h h1 => F.reg t k h (by rw [← he]; exact h1)
  keys := fun t k h h1 s b x k' h2 => by rw [he]; exact F.keys t k h (by rw [← he]; exact h1) s b x k' h2

/-- A value is put where its key holds, else nothing. -/
theorem FRel.put (F : FRel B g loc N e re a) {d : Nat} {key : Key} {h : HV} {v : Value} (hd : d < N) (hf : ∀ t k h, lk re t = some (k, h) → ∀ x ∈ k, x.1 ≠ d) (hkd : ∀ x ∈ key, x.1 ≠ d)
    (h1 : KeyHolds a.tmps key → HRel g loc h v) (h2 : ¬ KeyHolds a.tmps key → v = undef)
    (hk : ∀ s b x k', key = (s, b, x) :: k' → ∃ d, lk re s = some (k', .dat .bool d) ∧ d.bool = x) : FRel B g loc N e ((d, key, h) :: re) (a.put (some d) v) where
  size := by simp [Act.put, F.size]
  defers := F.defers
  old := F.old
  base := by
    intro t h' hn he
    rw [lk_cons] at hn
    split at hn
    · cases hn
    · rename_i hne
      simp only [Act.put]
      rw [getD_set_ne' _ _ _ _ (Ne.symm hne)]
      exact F.base t h' hn he
  reg := by
    intro t k h' hl
    rw [lk_cons] at hl
    split at hl
    · rename_i he
      subst he
      simp only [Option.some.injEq, Prod.mk.injEq] at hl
      obtain ⟨rfl, rfl⟩ := hl
      simp only [Act.put]
      rw [getD_set_same _ _ _ (by rw [F.size]; exact hd), holds_put hkd]
      exact ⟨h1, h2⟩
    · rename_i hne
      simp only [Act.put]
      rw [getD_set_ne' _ _ _ _ (Ne.symm hne), holds_put (hf t k h' hl)]
      exact F.reg t k h' hl
  keys := by
    have conv : ∀ s k' d', s ≠ d → lk re s = some (k', HV.dat .bool d') → lk ((d, key, h) :: re) s = some (k', .dat .bool d') := by
      intro s k' d' hne hs
      rw [lk_cons, if_neg (Ne.symm hne)]; exact hs
    intro t k h' hl s b x k' hkk
    rw [lk_cons] at hl
    split at hl
    · simp only [Option.some.injEq, Prod.mk.injEq] at hl
      obtain ⟨rfl, rfl⟩ := hl
      obtain ⟨d', k1, k2⟩ := hk s b x k' hkk
      exact ⟨d', conv s k' d' (hkd (s, b, x) (by rw [hkk]; simp)) k1, k2⟩
    · obtain ⟨d', k1, k2⟩ := F.keys t k h' hl s b x k' hkk
      exact ⟨d', conv s k' d' (hf t k h' hl (s, b, x) (by rw [hkk]; simp)) k1, k2⟩
end
end Go.Vm
