/- A region that draws its order: the evaluator. -/
import Derived.Test.YtjcfnooplhoheaaVmT
noncomputable section
namespace Go.Vm
open Go

abbrev RH := List (Nat × Key × VO)

/-- What an operation of a region has come to: its temporary, its key, its value, the objects that it has turned, the temporaries and the objects that it looks at. -/
structure Rec where
  dst : Option Nat
  key : Key
  hv : HV
  upd : List (Nat × VO)
  used : List Nat
  ids : List Nat

/-! ### Lists made by continuation, so that they stand written out -/
def opTmps : List Operand → List Nat
  | [] => []
  | .tmp t :: xs => t :: opTmps xs
  | _ :: xs => opTmps xs
def opTmpsK (xs : List Operand) : (List Nat → Prop) → Prop :=
  @List.rec Operand (fun _ => (List Nat → Prop) → Prop) (fun K => K []) (fun x _ ih K => match x with
    | .tmp t => ih fun l => K (t :: l)
    | _ => ih K) xs
theorem opTmpsK_eq : ∀ (xs : List Operand) (K : List Nat → Prop), opTmpsK xs K = K (opTmps xs)
  | [], _ => rfl
  | .tmp t :: xs, K => opTmpsK_eq xs fun l => K (t :: l)
  | .const _ :: xs, K => opTmpsK_eq xs K
  | .func _ :: xs, K => opTmpsK_eq xs K
  | .global _ :: xs, K => opTmpsK_eq xs K

def keySlots : Key → List Nat
  | [] => []
  | (s, _, _) :: k => s :: keySlots k
def keySlotsK (k : Key) (l : List Nat) : (List Nat → Prop) → Prop :=
  @List.rec (Nat × Bool × Bool) (fun _ => (List Nat → Prop) → Prop) (fun K => K l) (fun p _ ih K => match p with
    | (s, _, _) => ih fun l' => K (s :: l')) k
theorem keySlotsK_eq : ∀ (k : Key) (l : List Nat) (K : List Nat → Prop), keySlotsK k l K = K (keySlots k ++ l)
  | [], _, _ => rfl
  | (s, _, _) :: k, l, K => keySlotsK_eq k l fun l' => K (s :: l')

/-- The objects that a value names (as deep as four levels: what lies deeper is not found, and the operation then fails). -/
def idsL (ih : HV → List Nat) (hs : List HV) : List Nat := @List.rec HV (fun _ => List Nat) [] (fun h _ r => ih h ++ r) hs
def idsS (ih : HV → List Nat) (h : HV) : List Nat := match h with
  | .ptr o _ _ _ => [o]
  | .own o _ => [o]
  | .mp o _ _ => [o]
  | .mit o => [o]
  | .st _ fs => idsL ih fs
  | .fn _ fs => idsL ih fs
  | _ => []
def idsHV (fu : Nat) : HV → List Nat := @Nat.rec (fun _ => HV → List Nat) (fun _ => []) (fun _ ih => idsS ih) fu
def idsHVs (hs : List HV) : List Nat := idsL (idsHV 4) hs
def fNats (l : List Nat) : (List Nat → Prop) → Prop :=
  @List.rec Nat (fun _ => (List Nat → Prop) → Prop) (fun K => K []) (fun n _ ih K => ih fun l => K (n :: l)) l
theorem fNats_eq : ∀ (l : List Nat) (K : List Nat → Prop), fNats l K = K l
  | [], _ => rfl
  | n :: l, K => fNats_eq l fun l => K (n :: l)
def idssK (hs : List HV) (l : List Nat) (K : List Nat → Prop) : Prop := fNats (idsHVs hs ++ l) K
theorem idssK_eq (hs : List HV) (l : List Nat) (K : List Nat → Prop) : idssK hs l K = K (idsHVs hs ++ l) := fNats_eq _ _

/-- The values of operands, one by one. -/
def rhosK (e : Env) (re : REnv) (key : Key) (xs : List Operand) : (List HV → Prop) → Prop :=
  @List.rec Operand (fun _ => (List HV → Prop) → Prop) (fun K => K []) (fun x _ ih K => fHV (rho e re key x) fun h => ih fun l => K (h :: l)) xs
theorem rhosK_eq (e : Env) (re : REnv) (key : Key) : ∀ (xs : List Operand) (K : List HV → Prop), rhosK e re key xs K = K (xs.map (rho e re key))
  | [], _ => rfl
  | x :: xs, K => by show fHV (rho e re key x) (fun h => rhosK e re key xs fun l => K (h :: l)) = _; rw [fHV_eq, rhosK_eq e re key xs]; rfl

/-- Those objects that an operation may look at, as they stand. -/
def resH (rh : RH) (hp : Hp) (key : Key) : List Nat → Hp
  | [] => []
  | o :: os => match lk rh o with
    | some (k, vo) => match keyLe k key with
      | true => (o, vo) :: resH rh hp key os
      | false => resH rh hp key os
    | none => match lk hp o with
      | some vo => (o, vo) :: resH rh hp key os
      | none => resH rh hp key os
def resK (rh : RH) (hp : Hp) (key : Key) (os : List Nat) : (Hp → Prop) → Prop :=
  @List.rec Nat (fun _ => (Hp → Prop) → Prop) (fun K => K []) (fun o _ ih K => match lk rh o with
    | some (k, vo) => match keyLe k key with
      | true => ih fun l => K ((o, vo) :: l)
      | false => ih K
    | none => match lk hp o with
      | some vo => ih fun l => K ((o, vo) :: l)
      | none => ih K) os
theorem resK_eq (rh : RH) (hp : Hp) (key : Key) : ∀ (os : List Nat) (K : Hp → Prop), resK rh hp key os K = K (resH rh hp key os)
  | [], _ => rfl
  | o :: os, K => by
    have ih := resK_eq rh hp key os
    show (match lk rh o with
      | some (k, vo) => match keyLe k key with
        | true => resK rh hp key os fun l => K ((o, vo) :: l)
        | false => resK rh hp key os K
      | none => match lk hp o with
        | some vo => resK rh hp key os fun l => K ((o, vo) :: l)
        | none => resK rh hp key os K) = _
    simp only [resH]
    split
    · split <;> rw [ih]
    · split <;> rw [ih]

def memN (n : Nat) (l : List Nat) : Bool := @List.rec Nat (fun _ => Bool) false (fun m _ ih => Nat.beq n m || ih) l
theorem memN_iff {n : Nat} : ∀ {l : List Nat}, memN n l = true ↔ n ∈ l
  | [] => by simp [memN]
  | m :: l => by
    have e : memN n (m :: l) = (Nat.beq n m || memN n l) := rfl
    rw [e]
    simp only [Bool.or_eq_true, List.mem_cons, memN_iff (l := l)]
    constructor
    · rintro (h | h)
      · exact .inl (Nat.eq_of_beq_eq_true h)
      · exact .inr h
    · rintro (h | h)
      · subst h; exact .inl (by simp)
      · exact .inr h
def interU (us : List (Nat × VO)) (l : List Nat) : Bool := @List.rec (Nat × VO) (fun _ => Bool) false (fun p _ ih => match p with
  | (o, _) => memN o l || ih) us
def interUU (us vs : List (Nat × VO)) : Bool := @List.rec (Nat × VO) (fun _ => Bool) false (fun p _ ih => match p with
  | (o, _) => (match lk vs o with
    | some _ => true
    | none => false) || ih) us

def dstIn (d : Option Nat) (l : List Nat) : Bool := match d with
  | none => false
  | some d => memN d l
def dstEq (a b : Option Nat) : Bool := match a, b with
  | some a, some b => Nat.beq a b
  | _, _ => false

/-- The two must keep their order. -/
def conf (a b : Rec) : Bool := dstIn a.dst b.used || dstIn b.dst a.used || dstEq a.dst b.dst || interU a.upd b.ids || interU b.upd a.ids || interUU a.upd b.upd

def bindB : Ground → Bool
  | .textOnly _ | .gcOnly _ => false
  | _ => true
def edgeIn (j : Nat) (es : List Edge) : Bool := @List.rec Edge (fun _ => Bool) false (fun e _ ih => (Nat.beq e.on j && bindB e.ground) || ih) es
def edgesBack (i : Nat) (es : List Edge) : Bool := @List.rec Edge (fun _ => Bool) true (fun e _ ih => (!bindB e.ground || Nat.blt e.on i) && ih) es

def isData : Ground → Bool
  | .data => true
  | _ => false
def guardIs (g : Option (Nat × Bool)) (k : Nat) : Bool := match g with
  | none => false
  | some (g, _) => Nat.beq g k
/-- o comes after j: by an edge of its own, or by those of what it comes after (its operands and its guard). -/
def reachE (all : List Oper) (ih : Oper → Nat → Bool) (g : Option (Nat × Bool)) (j : Nat) (es : List Edge) : Bool := @List.rec Edge (fun _ => Bool) false (fun e _ r => (match (isData e.ground || guardIs g e.on) && (bindB e.ground && Nat.blt j e.on) with
  | true => (match all[e.on]? with
    | none => false
    | some oe => ih oe j)
  | false => false) || r) es
theorem reachE_mem {all : List Oper} {ih : Oper → Nat → Bool} {g : Option (Nat × Bool)} {j : Nat} : ∀ {es : List Edge}, reachE all ih g j es = true → ∃ e ∈ es, bindB e.ground = true ∧ ∃ oe, all[e.on]? = some oe ∧ ih oe j = true
  | [], h => by simp [reachE] at h
  | e :: es, h => by
    have h : ((match (isData e.ground || guardIs g e.on) && (bindB e.ground && Nat.blt j e.on) with
      | true => (match all[e.on]? with
        | none => false
        | some oe => ih oe j)
      | false => false) || reachE all ih g j es) = true := h
    rw [Bool.or_eq_true] at h
    rcases h with h | h
    · split at h
      · rename_i hb
        simp only [Bool.and_eq_true] at hb
        split at h
        · cases h
        · rename_i oe ho
          exact ⟨e, by simp, hb.2.1, oe, ho, h⟩
      · cases h
    · obtain ⟨e', h1, h2⟩ := reachE_mem h
      exact ⟨e', by simp [h1], h2⟩
def reachS (all : List Oper) (ih : Oper → Nat → Bool) (o : Oper) (j : Nat) : Bool := edgeIn j o.after.toList || reachE all ih o.guard j o.after.toList
def reachG (all : List Oper) (fu : Nat) : Oper → Nat → Bool := @Nat.rec (fun _ => Oper → Nat → Bool) (fun o j => edgeIn j o.after.toList) (fun _ ih => reachS all ih) fu

/-- The same, with one edge of any binding kind in front. -/
def reachB (all : List Oper) (j : Nat) (es : List Edge) : Bool := @List.rec Edge (fun _ => Bool) false (fun e _ r => (match bindB e.ground && Nat.blt j e.on with
  | true => (match all[e.on]? with
    | none => false
    | some oe => reachG all 40 oe j)
  | false => false) || r) es
theorem reachB_mem {all : List Oper} {j : Nat} : ∀ {es : List Edge}, reachB all j es = true → ∃ e ∈ es, bindB e.ground = true ∧ ∃ oe, all[e.on]? = some oe ∧ reachG all 40 oe j = true
  | [], h => by simp [reachB] at h
  | e :: es, h => by
    have h : ((match bindB e.ground && Nat.blt j e.on with
      | true => (match all[e.on]? with
        | none => false
        | some oe => reachG all 40 oe j)
      | false => false) || reachB all j es) = true := h
    rw [Bool.or_eq_true] at h
    rcases h with h | h
    · split at h
      · rename_i hb
        simp only [Bool.and_eq_true] at hb
        split at h
        · cases h
        · rename_i oe ho
          exact ⟨e, by simp, hb.1, oe, ho, h⟩
      · cases h
    · obtain ⟨e', h1, h2⟩ := reachB_mem h
      exact ⟨e', by simp [h1], h2⟩
def reachA (all : List Oper) (o : Oper) (j : Nat) : Bool := reachG all 40 o j || reachB all j o.after.toList
def confOK (all : List Oper) (o : Oper) (cur : Rec) (l : List (Nat × Rec)) : Bool := @List.rec (Nat × Rec) (fun _ => Bool) true (fun p _ ih => match p with
  | (j, r) => (!conf r cur || reachA all o j) && ih) l

/-- Under a guard only new objects are made. -/
def keyedOK (key : Key) (nx : Nat) (upd : List (Nat × VO)) : Bool := match key with
  | [] => true
  | _ => match upd with
    | [] => true
    | [(o, _)] => Nat.ble nx o
    | _ => false

def dstOK (N : Nat) (key : Key) (re : REnv) : Option Nat → Bool
  | none => match key with
    | [] => true
    | _ => false
  | some d => Nat.blt d N && keyFree d re && !keySlot d key

def addRe (dst : Option Nat) (key : Key) (hv : HV) (re : REnv) : REnv := match dst with
  | none => re
  | some d => (d, key, hv) :: re
def addRh (key : Key) (upd : List (Nat × VO)) (rh : RH) : RH := match upd with
  | [] => rh
  | (o, vo) :: upd => (o, key, vo) :: addRh key upd rh

def addRhK (key : Key) (upd : List (Nat × VO)) (rh : RH) : (RH → Prop) → Prop :=
  @List.rec (Nat × VO) (fun _ => (RH → Prop) → Prop) (fun K => K rh) (fun u _ ih K => fU u fun u => match u with
    | (o, vo) => ih fun rh => K ((o, key, vo) :: rh)) upd
theorem addRhK_eq (key : Key) : ∀ (upd : List (Nat × VO)) (rh : RH) (K : RH → Prop), addRhK key upd rh K = K (addRh key upd rh)
  | [], _, _ => rfl
  | (o, vo) :: upd, rh, K => by show fU (o, vo) (fun u => match u with | (o, vo) => addRhK key upd rh fun rh => K ((o, key, vo) :: rh)) = _; rw [fU_eq]; exact addRhK_eq key upd rh _

def preAnd (key : Key) (pre : Option Prop) (K : Prop) : Prop := match pre with
  | none => K
  | some p => imp' key p ∧ K

/-- The values whose objects an operation may look at (an address is reckoned without a look). -/
def lookHs (op : Op) (hs : List HV) : List HV := match op with
  | .fieldAddr _ _ _ => []
  | .move _ => []
  | .indexAddr _ _ _ => match hs with
    | .ptr _ _ _ _ :: _ => []
    | hs => hs
  | _ => hs

/-- One operation of a region that draws; what the text's order gives is asked to be what every order gives. -/
def vcDrawS (c : Ctx) (N : Nat) (e : Env) (hp : Hp) (nx : Nat) (all : List Oper) (o : Oper) (ih : Nat → List (Nat × Rec) → REnv → RH → (REnv → RH → Prop) → Prop) (i : Nat) (done : List (Nat × Rec)) (re : REnv) (rh : RH) (K : REnv → RH → Prop) : Prop :=
  match keyOf re all o.guard with
    | none => False
    | some key => match dstOK N key re o.dst && edgesBack i o.after.toList with
      | false => False
      | true => opTmpsK o.op.operands.toList fun ts => keySlotsK key ts fun used => match o.op with
        | .pick a x y => match a, o.dst with
          | .tmp ta, some d => match rho e re key a with
            | .dat .bool b => match pickHV b.bool x y (rho e re ((ta, true, b.bool) :: key) x) (rho e re ((ta, false, b.bool) :: key) y) with
              | some h => fHV h fun h => match confOK all o ⟨some d, key, h, [], used, []⟩ done with
                | true => ih (i + 1) ((i, ⟨some d, key, h, [], used, []⟩) :: done) ((d, key, h) :: re) rh K
                | false => False
              | none => False
            | _ => False
          | _, _ => False
        | _ => rhosK e re key o.op.operands.toList fun hs => idssK (lookHs o.op hs) [] fun ids => resK rh hp key ids fun hres =>
          match vop c (nx + 2 * i) (rho e re key) hres o.type o.op with
          | some ⟨hv, upd, _, pre⟩ => fHV hv fun hv => match keyedOK key (nx + 2 * i) upd && confOK all o ⟨o.dst, key, hv, upd, used, ids⟩ done with
            | true => preAnd key pre (addRhK key upd rh fun rh => ih (i + 1) ((i, ⟨o.dst, key, hv, upd, used, ids⟩) :: done) (match o.dst with
              | none => re
              | some d => (d, key, hv) :: re) rh K)
            | false => False
          | none => False

/-- The operations of a region that draws, in the order of the text. -/
def vcDraw (c : Ctx) (N : Nat) (e : Env) (hp : Hp) (nx : Nat) (all os : List Oper) : Nat → List (Nat × Rec) → REnv → RH → (REnv → RH → Prop) → Prop :=
  @List.rec Oper (fun _ => Nat → List (Nat × Rec) → REnv → RH → (REnv → RH → Prop) → Prop) (fun _ _ re rh K => K re rh) (fun o _ ih => vcDrawS c N e hp nx all o ih) os
theorem vcDraw_cons (c : Ctx) (N : Nat) (e : Env) (hp : Hp) (nx : Nat) (all : List Oper) (o : Oper) (os : List Oper) : vcDraw c N e hp nx all (o :: os) = vcDrawS c N e hp nx all o (vcDraw c N e hp nx all os) := rfl
theorem vcDraw_nil (c : Ctx) (N : Nat) (e : Env) (hp : Hp) (nx : Nat) (all : List Oper) (i : Nat) (done : List (Nat × Rec)) (re : REnv) (rh : RH) (K : REnv → RH → Prop) : vcDraw c N e hp nx all [] i done re rh K = K re rh := rfl
/-- No two records conflict, but in an order that is kept. -/
def confAll (all : List Oper) (l : List (Nat × Rec)) : Bool := @List.rec (Nat × Rec) (fun _ => Bool) true (fun p tl ih => match p with
  | (i, r) => (match all[i]? with
    | some o => confOK all o r tl
    | none => false) && ih) l
theorem confAll_cons {all : List Oper} {i : Nat} {r : Rec} {l : List (Nat × Rec)} (h : confAll all ((i, r) :: l) = true) {o : Oper} (ho : all[i]? = some o) : confOK all o r l = true ∧ confAll all l = true := by
  have h1 : ((match all[i]? with
    | some o => confOK all o r l
    | none => false) && confAll all l) = true := h
  rw [ho] at h1
  simpa using h1
/-- The same, with what is asked of the order left to the end. -/
def vcDrawFS (c : Ctx) (N : Nat) (e : Env) (hp : Hp) (nx : Nat) (all : List Oper) (o : Oper) (ih : Nat → List (Nat × Rec) → REnv → RH → (REnv → RH → Prop) → Prop) (i : Nat) (done : List (Nat × Rec)) (re : REnv) (rh : RH) (K : REnv → RH → Prop) : Prop :=
  match keyOf re all o.guard with
    | none => False
    | some key => match dstOK N key re o.dst && edgesBack i o.after.toList with
      | false => False
      | true => opTmpsK o.op.operands.toList fun ts => keySlotsK key ts fun used => match o.op with
        | .pick a x y => match a, o.dst with
          | .tmp ta, some d => match rho e re key a with
            | .dat .bool b => match pickHV b.bool x y (rho e re ((ta, true, b.bool) :: key) x) (rho e re ((ta, false, b.bool) :: key) y) with
              | some h => fHV h fun h => ih (i + 1) ((i, ⟨some d, key, h, [], used, []⟩) :: done) ((d, key, h) :: re) rh K
              | none => False
            | _ => False
          | _, _ => False
        | _ => rhosK e re key o.op.operands.toList fun hs => idssK (lookHs o.op hs) [] fun ids => resK rh hp key ids fun hres =>
          match vop c (nx + 2 * i) (rho e re key) hres o.type o.op with
          | some ⟨hv, upd, _, pre⟩ => fHV hv fun hv => match keyedOK key (nx + 2 * i) upd with
            | true => preAnd key pre (addRhK key upd rh fun rh => match o.dst with
              | none => ih (i + 1) ((i, ⟨o.dst, key, hv, upd, used, ids⟩) :: done) re rh K
              | some d => ih (i + 1) ((i, ⟨o.dst, key, hv, upd, used, ids⟩) :: done) ((d, key, hv) :: re) rh K)
            | false => False
          | none => False

/-- All operations of a region that draws; behind them: no two that must keep their order are free to change it. -/
def vcDrawF (c : Ctx) (N : Nat) (e : Env) (hp : Hp) (nx : Nat) (all os : List Oper) : Nat → List (Nat × Rec) → REnv → RH → (REnv → RH → Prop) → Prop :=
  @List.rec Oper (fun _ => Nat → List (Nat × Rec) → REnv → RH → (REnv → RH → Prop) → Prop) (fun _ done re rh K => confAll all done = true ∧ K re rh) (fun o _ ih => vcDrawFS c N e hp nx all o ih) os
theorem vcDrawF_cons (c : Ctx) (N : Nat) (e : Env) (hp : Hp) (nx : Nat) (all : List Oper) (o : Oper) (os : List Oper) : vcDrawF c N e hp nx all (o :: os) = vcDrawFS c N e hp nx all o (vcDrawF c N e hp nx all os) := rfl
theorem vcDrawF_nil (c : Ctx) (N : Nat) (e : Env) (hp : Hp) (nx : Nat) (all : List Oper) (i : Nat) (done : List (Nat × Rec)) (re : REnv) (rh : RH) (K : REnv → RH → Prop) : vcDrawF c N e hp nx all [] i done re rh K = (confAll all done = true ∧ K re rh) := rfl
theorem vcDrawF_draw {c : Ctx} {N : Nat} {e : Env} {hp : Hp} {nx : Nat} {all : List Oper} {K : REnv → RH → Prop} : ∀ (os : List Oper) (i : Nat) (done : List (Nat × Rec)) (re : REnv) (rh : RH), all.drop i = os →
    vcDrawF c N e hp nx all os i done re rh K → confAll all done = true ∧ vcDraw c N e hp nx all os i done re rh K
  | [], i, done, re, rh, _, h => by rw [vcDrawF_nil] at h; exact h
  | o :: os, i, done, re, rh, hd, h => by
    have hoi : all[i]? = some o := by
      have : (all.drop i)[0]? = some o := by rw [hd]; rfl
      simpa using this
    have hd' : all.drop (i + 1) = os := by
      have : (all.drop i).tail = os := by rw [hd]; rfl
      rw [← this, List.tail_drop]
    rw [vcDrawF_cons] at h
    rw [vcDraw_cons]
    unfold vcDrawFS at h
    unfold vcDrawS
    split at h
    · exact h.elim
    · rename_i key hkey
      split at h
      · exact h.elim
      · rename_i hok
        simp only [opTmpsK_eq, keySlotsK_eq] at h ⊢
        split at h
        · rename_i pa px py hop
          split at h
          · rename_i ta d hdst
            split at h
            · rename_i b hb
              split at h
              · rename_i hv hpick
                rw [fHV_eq] at h
                obtain ⟨h1, h2⟩ := vcDrawF_draw os (i + 1) _ _ _ hd' h
                obtain ⟨h3, h4⟩ := confAll_cons h1 hoi
                refine ⟨h4, ?_⟩
                simp only [fHV_eq, h3]
                exact h2
              · exact h.elim
            · exact h.elim
          · exact h.elim
        · rename_i hnp
          rw [rhosK_eq, idssK_eq, resK_eq] at h
          split at h
          · rename_i hv upd nx' pre hvop
            rw [fHV_eq] at h
            split at h
            · rename_i hkd
              rw [addRhK_eq] at h
              have hm : (match o.dst with
                | none => vcDrawF c N e hp nx all os (i + 1) ((i, ⟨o.dst, key, hv, upd, keySlots key ++ opTmps o.op.operands.toList, idsHVs (lookHs o.op (o.op.operands.toList.map (rho e re key))) ++ []⟩) :: done) re (addRh key upd rh) K
                | some d => vcDrawF c N e hp nx all os (i + 1) ((i, ⟨o.dst, key, hv, upd, keySlots key ++ opTmps o.op.operands.toList, idsHVs (lookHs o.op (o.op.operands.toList.map (rho e re key))) ++ []⟩) :: done) ((d, key, hv) :: re) (addRh key upd rh) K) =
                vcDrawF c N e hp nx all os (i + 1) ((i, ⟨o.dst, key, hv, upd, keySlots key ++ opTmps o.op.operands.toList, idsHVs (lookHs o.op (o.op.operands.toList.map (rho e re key))) ++ []⟩) :: done) (match o.dst with
                | none => re
                | some d => (d, key, hv) :: re) (addRh key upd rh) K := by
                cases o.dst <;> rfl
              rw [hm] at h
              have key2 : ∀ h0 : vcDrawF c N e hp nx all os (i + 1) ((i, ⟨o.dst, key, hv, upd, keySlots key ++ opTmps o.op.operands.toList, idsHVs (lookHs o.op (o.op.operands.toList.map (rho e re key))) ++ []⟩) :: done) (match o.dst with
                | none => re
                | some d => (d, key, hv) :: re) (addRh key upd rh) K, _ := fun h0 => vcDrawF_draw os (i + 1) _ _ _ hd' h0
              have h0 : vcDrawF c N e hp nx all os (i + 1) ((i, ⟨o.dst, key, hv, upd, keySlots key ++ opTmps o.op.operands.toList, idsHVs (lookHs o.op (o.op.operands.toList.map (rho e re key))) ++ []⟩) :: done) (match o.dst with
                | none => re
                | some d => (d, key, hv) :: re) (addRh key upd rh) K := by
                unfold preAnd at h
                cases pre with
                | none => exact h
                | some p => exact h.2
              obtain ⟨h1, h2⟩ := key2 h0
              obtain ⟨h3, h4⟩ := confAll_cons h1 hoi
              refine ⟨h4, ?_⟩
              have e1 : (keyedOK key (nx + 2 * i) upd && confOK all o ⟨o.dst, key, hv, upd, keySlots key ++ opTmps o.op.operands.toList, idsHVs (lookHs o.op (o.op.operands.toList.map (rho e re key))) ++ []⟩ done) = true := by rw [hkd, h3]; rfl
              rw [rhosK_eq, idssK_eq, resK_eq, hvop]
              simp only [fHV_eq]
              rw [e1]
              simp only [addRhK_eq]
              unfold preAnd at h ⊢
              cases pre with
              | none => exact h2
              | some p => exact ⟨h.1, h2⟩
            · exact h.elim
          · exact h.elim
end Go.Vm
