/- A region that draws its order: the evaluator. -/
import Derived.Test.YtjjpeeppfnhiiaaVmT
namespace Go.Vm
open Go

abbrev RH := List (Nat × Key × VO)

/-- What an operation of a region has come to: its temporary, its key, its value, the objects that it has turned, the temporaries and the objects that it looks at. -/
structure Rec where
  dst : Option Nat
  key : Key
  hv : HV
  upd : List (Nat × VO)
  used : List Nat
  ids : List Nat

/-! ### Lists made by continuation, so that they stand written out -/
def opTmps : List Operand → List Nat
  | [] => []
  | .tmp t :: xs => t :: opTmps xs
  | _ :: xs => opTmps xs
def opTmpsK : List Operand → (List Nat → Prop) → Prop
  | [], K => K []
  | .tmp t :: xs, K => opTmpsK xs fun l => K (t :: l)
  | _ :: xs, K => opTmpsK xs K
theorem opTmpsK_eq : ∀ (xs : List Operand) (K : List Nat → Prop), opTmpsK xs K = K (opTmps xs)
  | [], _ => rfl
  | .tmp t :: xs, K => by simp only [opTmpsK, opTmps, opTmpsK_eq xs]
  | .const _ :: xs, K => by simp only [opTmpsK, opTmps, opTmpsK_eq xs]
  | .func _ :: xs, K => by simp only [opTmpsK, opTmps, opTmpsK_eq xs]
  | .global _ :: xs, K => by simp only [opTmpsK, opTmps, opTmpsK_eq xs]

def keySlots : Key → List Nat
  | [] => []
  | (s, _, _) :: k => s :: keySlots k
def keySlotsK : Key → List Nat → (List Nat → Prop) → Prop
  | [], l, K => K l
  | (s, _, _) :: k, l, K => keySlotsK k l fun l' => K (s :: l')
theorem keySlotsK_eq : ∀ (k : Key) (l : List Nat) (K : List Nat → Prop), keySlotsK k l K = K (keySlots k ++ l)
  | [], _, _ => rfl
  | (s, b, x) :: k, l, K => by simp only [keySlotsK, keySlots, keySlotsK_eq k]; rfl

mutual
def idsHV : HV → List Nat
  | .ptr o _ _ _ => [o]
  | .own o _ => [o]
  | .st _ fs => idsHVs fs
  | .fn _ fs => idsHVs fs
  | _ => []
def idsHVs : List HV → List Nat
  | [] => []
  | h :: hs => idsHV h ++ idsHVs hs
end
mutual
def idsK : HV → List Nat → (List Nat → Prop) → Prop
  | .ptr o _ _ _, l, K => K (o :: l)
  | .own o _, l, K => K (o :: l)
  | .st _ fs, l, K => idssK fs l K
  | .fn _ fs, l, K => idssK fs l K
  | _, l, K => K l
def idssK : List HV → List Nat → (List Nat → Prop) → Prop
  | [], l, K => K l
  | h :: hs, l, K => idssK hs l fun l' => idsK h l' K
end
mutual
theorem idsK_eq : ∀ (h : HV) (l : List Nat) (K : List Nat → Prop), idsK h l K = K (idsHV h ++ l)
  | .ptr .., _, _ => by simp [idsK, idsHV]
  | .own .., _, _ => by simp [idsK, idsHV]
  | .st _ fs, l, K => by simp only [idsK, idsHV]; exact idssK_eq fs l K
  | .fn _ fs, l, K => by simp only [idsK, idsHV]; exact idssK_eq fs l K
  | .dat .., _, _ => by simp [idsK, idsHV]
  | .gptr .., _, _ => by simp [idsK, idsHV]
  | .tup .., _, _ => by simp [idsK, idsHV]
  | .cst .., _, _ => by simp [idsK, idsHV]
  | .yld .., _, _ => by simp [idsK, idsHV]
  | .und, _, _ => by simp [idsK, idsHV]
theorem idssK_eq : ∀ (hs : List HV) (l : List Nat) (K : List Nat → Prop), idssK hs l K = K (idsHVs hs ++ l)
  | [], _, _ => by simp [idssK, idsHVs]
  | h :: hs, l, K => by
    simp only [idssK, idsHVs]
    rw [idssK_eq hs l]
    rw [idsK_eq h, List.append_assoc]
end

/-- The values of operands, one by one. -/
def rhosK (e : Env) (re : REnv) (key : Key) : List Operand → (List HV → Prop) → Prop
  | [], K => K []
  | x :: xs, K => match rho e re key x with
    | h => rhosK e re key xs fun l => K (h :: l)
theorem rhosK_eq (e : Env) (re : REnv) (key : Key) : ∀ (xs : List Operand) (K : List HV → Prop), rhosK e re key xs K = K (xs.map (rho e re key))
  | [], _ => rfl
  | x :: xs, K => by simp only [rhosK, List.map_cons]; exact rhosK_eq e re key xs _

/-- Those objects that an operation may look at, as they stand. -/
def resH (rh : RH) (hp : Hp) (key : Key) : List Nat → Hp
  | [] => []
  | o :: os => match lk rh o with
    | some (k, vo) => match keyLe k key with
      | true => (o, vo) :: resH rh hp key os
      | false => resH rh hp key os
    | none => match lk hp o with
      | some vo => (o, vo) :: resH rh hp key os
      | none => resH rh hp key os
def resK (rh : RH) (hp : Hp) (key : Key) : List Nat → (Hp → Prop) → Prop
  | [], K => K []
  | o :: os, K => match lk rh o with
    | some (k, vo) => match keyLe k key with
      | true => resK rh hp key os fun l => K ((o, vo) :: l)
      | false => resK rh hp key os K
    | none => match lk hp o with
      | some vo => resK rh hp key os fun l => K ((o, vo) :: l)
      | none => resK rh hp key os K
theorem resK_eq (rh : RH) (hp : Hp) (key : Key) : ∀ (os : List Nat) (K : Hp → Prop), resK rh hp key os K = K (resH rh hp key os)
  | [], _ => rfl
  | o :: os, K => by
    simp only [resK, resH]
    split
    · split <;> rw [resK_eq rh hp key os]
    · split <;> rw [resK_eq rh hp key os]

def memN (n : Nat) : List Nat → Bool
  | [] => false
  | m :: l => Nat.beq n m || memN n l
theorem memN_iff {n : Nat} : ∀ {l : List Nat}, memN n l = true ↔ n ∈ l
  | [] => by simp [memN]
  | m :: l => by
    simp only [memN, Bool.or_eq_true, List.mem_cons, memN_iff (l := l)]
    constructor
    · rintro (h | h)
      · exact .inl (Nat.eq_of_beq_eq_true h)
      · exact .inr h
    · rintro (h | h)
      · subst h; exact .inl (by simp)
      · exact .inr h
def interU (us : List (Nat × VO)) (l : List Nat) : Bool := match us with
  | [] => false
  | (o, _) :: us => memN o l || interU us l
def interUU (us vs : List (Nat × VO)) : Bool := match us with
  | [] => false
  | (o, _) :: us => (match lk vs o with
    | some _ => true
    | none => false) || interUU us vs

def dstIn (d : Option Nat) (l : List Nat) : Bool := match d with
  | none => false
  | some d => memN d l
def dstEq (a b : Option Nat) : Bool := match a, b with
  | some a, some b => Nat.beq a b
  | _, _ => false

/-- The two must keep their order. -/
def conf (a b : Rec) : Bool := dstIn a.dst b.used || dstIn b.dst a.used || dstEq a.dst b.dst || interU a.upd b.ids || interU b.upd a.ids || interUU a.upd b.upd

def bindB : Ground → Bool
  | .textOnly _ | .gcOnly _ => false
  | _ => true
def edgeIn (j : Nat) : List Edge → Bool
  | [] => false
  | e :: es => (Nat.beq e.on j && bindB e.ground) || edgeIn j es
def edgesBack (i : Nat) : List Edge → Bool
  | [] => true
  | e :: es => (!bindB e.ground || Nat.blt e.on i) && edgesBack i es

def confOK (o : Oper) (cur : Rec) : List (Nat × Rec) → Bool
  | [] => true
  | (j, r) :: l => (!conf r cur || edgeIn j o.after.toList) && confOK o cur l

/-- Under a guard only new objects are made. -/
def keyedOK (key : Key) (nx : Nat) (upd : List (Nat × VO)) : Bool := match key with
  | [] => true
  | _ => match upd with
    | [] => true
    | [(o, _)] => Nat.ble nx o
    | _ => false

def dstOK (N : Nat) (key : Key) (re : REnv) : Option Nat → Bool
  | none => match key with
    | [] => true
    | _ => false
  | some d => Nat.blt d N && keyFree d re && !keySlot d key

def addRe (dst : Option Nat) (key : Key) (hv : HV) (re : REnv) : REnv := match dst with
  | none => re
  | some d => (d, key, hv) :: re
def addRh (key : Key) (upd : List (Nat × VO)) (rh : RH) : RH := match upd with
  | [] => rh
  | (o, vo) :: upd => (o, key, vo) :: addRh key upd rh

def addRhK (key : Key) (upd : List (Nat × VO)) (rh : RH) (K : RH → Prop) : Prop := match upd with
  | [] => K rh
  | u :: upd => fU u fun u => match u with
    | (o, vo) => addRhK key upd rh fun rh => K ((o, key, vo) :: rh)
theorem addRhK_eq (key : Key) : ∀ (upd : List (Nat × VO)) (rh : RH) (K : RH → Prop), addRhK key upd rh K = K (addRh key upd rh)
  | [], _, _ => rfl
  | (o, vo) :: upd, rh, K => by simp only [addRhK, fU_eq, addRh]; exact addRhK_eq key upd rh _

def preAnd (key : Key) (pre : Option Prop) (K : Prop) : Prop := match pre with
  | none => K
  | some p => imp' key p ∧ K

/-- The operations of a region that draws, in the order of the text; what the text's order gives is asked to be what every order gives. -/
def vcDraw (c : Ctx) (N : Nat) (e : Env) (hp : Hp) (nx : Nat) (all : List Oper) : List Oper → Nat → List (Nat × Rec) → REnv → RH → (REnv → RH → Prop) → Prop
  | [], _, _, re, rh, K => K re rh
  | o :: os, i, done, re, rh, K => match keyOf re all o.guard with
    | none => False
    | some key => match dstOK N key re o.dst && edgesBack i o.after.toList with
      | false => False
      | true => opTmpsK o.op.operands.toList fun ts => keySlotsK key ts fun used => match o.op with
        | .pick a x y => match a, o.dst with
          | .tmp ta, some d => match rho e re key a with
            | .dat .bool b => match pickHV b.bool x y (rho e re ((ta, true, b.bool) :: key) x) (rho e re ((ta, false, b.bool) :: key) y) with
              | some h => fHV h fun h => match confOK o ⟨some d, key, h, [], used, []⟩ done with
                | true => vcDraw c N e hp nx all os (i + 1) ((i, ⟨some d, key, h, [], used, []⟩) :: done) ((d, key, h) :: re) rh K
                | false => False
              | none => False
            | _ => False
          | _, _ => False
        | _ => rhosK e re key o.op.operands.toList fun hs => idssK hs [] fun ids => resK rh hp key ids fun hres =>
          match vop c (nx + 2 * i) (rho e re key) hres o.type o.op with
          | some ⟨hv, upd, _, pre⟩ => fHV hv fun hv => match keyedOK key (nx + 2 * i) upd && confOK o ⟨o.dst, key, hv, upd, used, ids⟩ done with
            | true => preAnd key pre (addRhK key upd rh fun rh => vcDraw c N e hp nx all os (i + 1) ((i, ⟨o.dst, key, hv, upd, used, ids⟩) :: done) (match o.dst with
              | none => re
              | some d => (d, key, hv) :: re) rh K)
            | false => False
          | none => False
end Go.Vm
