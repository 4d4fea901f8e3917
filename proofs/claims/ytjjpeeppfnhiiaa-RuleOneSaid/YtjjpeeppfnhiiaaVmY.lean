/- Code: sequences, tests, blocks, loops, calls that are walked into. The evaluator. -/
import Derived.Test.YtjjpeeppfnhiiaaVmX
import Derived.Deep.LoopGhost
namespace Go.Vm
open Go
set_option linter.unusedSimpArgs false

/-- What a region has made becomes part of the environment; what hangs on a guard is forgotten. -/
def merge : REnv → Env → Env
  | [], e => e
  | (t, [], h) :: re, e => (t, h) :: merge re e
  | (t, _ :: _, _) :: re, e => (t, .und) :: merge re e
def mergeK : REnv → Env → (Env → Prop) → Prop
  | [], e, K => K e
  | (t, [], h) :: re, e, K => mergeK re e fun e' => K ((t, h) :: e')
  | (t, _ :: _, _) :: re, e, K => mergeK re e fun e' => K ((t, .und) :: e')
theorem mergeK_eq : ∀ (re : REnv) (e : Env) (K : Env → Prop), mergeK re e K = K (merge re e)
  | [], _, _ => rfl
  | (t, [], h) :: re, e, K => by simp only [mergeK, merge, mergeK_eq re]
  | (t, _ :: _, _) :: re, e, K => by simp only [mergeK, merge, mergeK_eq re]

def mergeH : RH → Hp → Hp
  | [], hp => hp
  | (o, [], vo) :: rh, hp => (o, vo) :: mergeH rh hp
  | (o, _ :: _, _) :: rh, hp => (o, .dead) :: mergeH rh hp
def mergeHK : RH → Hp → (Hp → Prop) → Prop
  | [], hp, K => K hp
  | (o, [], vo) :: rh, hp, K => mergeHK rh hp fun hp' => K ((o, vo) :: hp')
  | (o, _ :: _, _) :: rh, hp, K => mergeHK rh hp fun hp' => K ((o, .dead) :: hp')
theorem mergeHK_eq : ∀ (rh : RH) (hp : Hp) (K : Hp → Prop), mergeHK rh hp K = K (mergeH rh hp)
  | [], _, _ => rfl
  | (o, [], vo) :: rh, hp, K => by simp only [mergeHK, mergeH, mergeHK_eq rh]
  | (o, _ :: _, _) :: rh, hp, K => by simp only [mergeHK, mergeH, mergeHK_eq rh]

/-! ### A state seen through fewer names -/
def renId (ρ : List (Nat × Nat)) (o : Nat) : Nat := match lk ρ o with
  | some o' => o'
  | none => o
mutual
def ren (ρ : List (Nat × Nat)) : HV → HV
  | .ptr o r p s => .ptr (renId ρ o) r p s
  | .own o s => .own (renId ρ o) s
  | .yld o => .yld (renId ρ o)
  | .fn f cs => .fn f (rens ρ cs)
  | .st ss fs => .st ss (rens ρ fs)
  | .tup vs => .tup (rens ρ vs)
  | h => h
def rens (ρ : List (Nat × Nat)) : List HV → List HV
  | [] => []
  | h :: hs => ren ρ h :: rens ρ hs
end
def renVO (ρ : List (Nat × Nat)) : VO → VO
  | .box s v => .box s (ren ρ v)
  | vo => vo

abbrev ST := Env × Hp × Nat

def envEq (ρ : List (Nat × Nat)) (B : Env) : Env → Prop
  | [] => True
  | (t, h) :: es => lk B t = some (ren ρ h) ∧ envEq ρ B es
def hpEq (ρ : List (Nat × Nat)) (B : Hp) : Hp → Prop
  | [] => True
  | (o, vo) :: hs => lk B (renId ρ o) = some (renVO ρ vo) ∧ hpEq ρ B hs
def imgsNew (ρ : List (Nat × Nat)) : Hp → List Nat → Bool
  | [], _ => true
  | (o, _) :: hs, l => !memN (renId ρ o) l && imgsNew ρ hs (renId ρ o :: l)
def keysGe (n : Nat) : List (Nat × Nat) → Bool
  | [] => true
  | (o, _) :: ρ => Nat.ble n o && keysGe n ρ

mutual
def idsLt (n : Nat) : HV → Bool
  | .ptr o _ _ _ => Nat.blt o n
  | .own o _ => Nat.blt o n
  | .yld o => Nat.blt o n
  | .fn _ cs => idssLt n cs
  | .st _ fs => idssLt n fs
  | .tup vs => idssLt n vs
  | _ => true
def idssLt (n : Nat) : List HV → Bool
  | [] => true
  | h :: hs => idsLt n h && idssLt n hs
end
def envLt (n : Nat) : Env → Bool
  | [] => true
  | (_, h) :: es => idsLt n h && envLt n es
def hpLt (n : Nat) : Hp → Bool
  | [] => true
  | (o, .box _ v) :: hs => Nat.blt o n && (idsLt n v && hpLt n hs)
  | (o, _) :: hs => Nat.blt o n && hpLt n hs

/-- The state B says all that A says, A's names from n0 on read by ρ. -/
def covers (n0 : Nat) (A B : ST) : Prop := ∃ ρ : List (Nat × Nat), (Nat.ble n0 A.2.2 && keysGe n0 ρ && imgsNew ρ A.2.1 [] && envLt A.2.2 A.1 && hpLt A.2.2 A.2.1) = true ∧ envEq ρ B.1 A.1 ∧ hpEq ρ B.2.1 A.2.1

/-! ### Results -/
def oneRes (c : Ctx) (e : Env) (hp : Hp) : ResultVar → HV
  | .tmp t => match lk e t with
    | some h => h
    | none => .und
  | .cell a t => match vop c 0 (rho e [] []) hp 0 (.load t (.tmp a)) with
    | some ef => ef.hv
    | none => .und
def resList (c : Ctx) (e : Env) (hp : Hp) : List ResultVar → (List HV → Prop) → Prop
  | [], K => K []
  | r :: rs, K => match oneRes c e hp r with
    | .und => False
    | .tup _ => False
    | h => resList c e hp rs fun l => K (h :: l)
def retK (c : Ctx) (e : Env) (hp : Hp) (rs : List ResultVar) (K : HV → Prop) : Prop := resList c e hp rs fun l => match l with
  | [h] => K h
  | l => K (.tup l)

def argEnv : List HV → Nat → Env
  | [], _ => []
  | h :: hs, i => (i, h) :: argEnv hs (i + 1)

/-- The end of a function. -/
def endK (c : Ctx) (F : Func) (K : HV → Hp → Nat → Prop) (x : Exit) (e : Env) (hp : Hp) (nx : Nat) : Prop := match x with
  | .normal => retK c e hp F.results.toList fun h => K h hp nx
  | .ret => retK c e hp F.results.toList fun h => K h hp nx
  | _ => False

/-- A call of a function, walked into. -/
def intoFun (c : Ctx) (vc : Nat → Code → Env → Hp → Nat → (Exit → Env → Hp → Nat → Prop) → Prop) (F : Func) (hs : List HV) (hp : Hp) (nx : Nat) (K : HV → Hp → Nat → Prop) : Prop := match F.body with
  | none => False
  | some b => match Nat.ble hs.length F.ntmps with
    | true => vc F.ntmps b (argEnv hs 0) hp nx (endK c F K)
    | false => False
def into (c : Ctx) (vc : Nat → Code → Env → Hp → Nat → (Exit → Env → Hp → Nat → Prop) → Prop) (f : Nat) (hs : List HV) (hp : Hp) (nx : Nat) (K : HV → Hp → Nat → Prop) : Prop := match lk c.funs f with
  | none => False
  | some F => intoFun c vc F hs hp nx K

/-- The evaluator: the condition under which code, from a state, ends as K asks. -/
def vcCode (c : Ctx) : Nat → Nat → Code → Env → Hp → Nat → (Exit → Env → Hp → Nat → Prop) → Prop
  | 0, _, _, _, _, _, _ => False
  | fu + 1, N, code, e, hp, nx, K => match code with
    | .skip => K .normal e hp nx
    | .region _ ops draw => match draw with
      | false => vcOps c (into c (vcCode c fu)) N e ops.toList ops.toList [] hp nx fun re hp nx => mergeK re e fun e' => K .normal e' hp nx
      | true => vcDraw c N e hp nx ops.toList ops.toList 0 [] [] [] fun re rh => mergeK re e fun e' => mergeHK rh hp fun hp' => K .normal e' hp' (nx + 2 * ops.toList.length)
    | .seq a b => vcCode c fu N a e hp nx fun x e hp nx => match x with
      | .normal => vcCode c fu N b e hp nx K
      | x => K x e hp nx
    | .cond x a b => match rho e [] [] x with
      | .dat .bool d => (d.bool = true → vcCode c fu N a e hp nx K) ∧ (d.bool = false → vcCode c fu N b e hp nx K)
      | _ => False
    | .block id b => vcCode c fu N b e hp nx fun x e hp nx => match x with
      | .exit j => match Nat.beq j id with
        | true => K .normal e hp nx
        | false => K (.exit j) e hp nx
      | x => K x e hp nx
    | .loop b => ∃ (X : Type) (mk : X → ST) (μ : X → Nat) (x0 : X), covers nx (mk x0) (e, hp, nx) ∧ ∀ x, vcCode c fu N b (mk x).1 (mk x).2.1 (mk x).2.2 fun ex e' hp' nx' => match ex with
      | .normal => ∃ x', covers nx (mk x') (e', hp', nx') ∧ μ x' < μ x
      | ex => K ex e' hp' nx'
    | .exit j => K (.exit j) e hp nx
    | .ret => K .ret e hp nx
    | _ => False

/-- A function, from its arguments. -/
def vcFun (c : Ctx) (fu : Nat) (F : Func) (hs : List HV) (hp : Hp) (nx : Nat) (K : HV → Hp → Nat → Prop) : Prop := intoFun c (vcCode c fu) F hs hp nx K
end Go.Vm
