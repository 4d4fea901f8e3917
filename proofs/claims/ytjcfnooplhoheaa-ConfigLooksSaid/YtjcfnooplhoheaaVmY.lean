/- Code: sequences, tests, blocks, loops, calls that are walked into. The evaluator. -/
import Derived.Test.YtjcfnooplhoheaaVmX
import Derived.Deep.LoopGhost
noncomputable section
namespace Go.Vm
open Go
set_option linter.unusedSimpArgs false

/-- What a region has made becomes part of the environment; what hangs on a guard is forgotten. -/
def merge : REnv → Env → Env
  | [], e => e
  | (t, [], h) :: re, e => (t, h) :: merge re e
  | (t, _ :: _, _) :: re, e => (t, .und) :: merge re e
def mergeK (re : REnv) (e : Env) : (Env → Prop) → Prop :=
  @List.rec (Nat × Key × HV) (fun _ => (Env → Prop) → Prop) (fun K => K e) (fun p _ ih K => match p with
    | (t, k, h) => match k with
      | [] => ih fun e' => K ((t, h) :: e')
      | _ :: _ => ih fun e' => K ((t, .und) :: e')) re
theorem mergeK_eq : ∀ (re : REnv) (e : Env) (K : Env → Prop), mergeK re e K = K (merge re e)
  | [], _, _ => rfl
  | (t, [], h) :: re, e, K => mergeK_eq re e fun e' => K ((t, h) :: e')
  | (t, _ :: _, _) :: re, e, K => mergeK_eq re e fun e' => K ((t, .und) :: e')

/-- Of a region's slots only some are kept. -/
def mergeP' (ks : List Nat) (e : Env) : REnv → Env
  | [] => e
  | (t, k, h) :: re => match memN t ks with
    | true => match k with
      | [] => (t, h) :: mergeP' ks e re
      | _ :: _ => (t, .und) :: mergeP' ks e re
    | false => match lk e t with
      | none => mergeP' ks e re
      | some _ => (t, .und) :: mergeP' ks e re
def mergeP (ks : List Nat) (e : Env) (re : REnv) : (Env → Prop) → Prop :=
  @List.rec (Nat × Key × HV) (fun _ => (Env → Prop) → Prop) (fun K => K e) (fun p _ ih K => match p with
    | (t, k, h) => match memN t ks with
      | true => match k with
        | [] => ih fun e' => K ((t, h) :: e')
        | _ :: _ => ih fun e' => K ((t, .und) :: e')
      | false => match lk e t with
        | none => ih K
        | some _ => ih fun e' => K ((t, .und) :: e')) re
theorem mergeP_cons (ks : List Nat) (e : Env) (t : Nat) (k : Key) (h : HV) (re : REnv) (K : Env → Prop) : mergeP ks e ((t, k, h) :: re) K = match memN t ks with
    | true => match k with
      | [] => mergeP ks e re fun e' => K ((t, h) :: e')
      | _ :: _ => mergeP ks e re fun e' => K ((t, .und) :: e')
    | false => match lk e t with
      | none => mergeP ks e re K
      | some _ => mergeP ks e re fun e' => K ((t, .und) :: e') := rfl
theorem mergeP_eq (ks : List Nat) (e : Env) : ∀ (re : REnv) (K : Env → Prop), mergeP ks e re K = K (mergeP' ks e re)
  | [], _ => rfl
  | (t, k, h) :: re, K => by
    simp only [mergeP_cons, mergeP']
    split
    · split <;> exact mergeP_eq ks e re _
    · split <;> exact mergeP_eq ks e re _
theorem mergeP_none {ks : List Nat} {e : Env} {t : Nat} (hk : memN t ks = false) (he : lk e t = none) : ∀ re : REnv, lk (mergeP' ks e re) t = none
  | [] => he
  | (t0, k, h) :: re => by
    have ih := mergeP_none hk he re
    have ne : memN t0 ks = true → t0 ≠ t := fun h1 e1 => by rw [e1, hk] at h1; cases h1
    simp only [mergeP']
    split
    · rename_i h1
      split <;> (rw [lk_cons, if_neg (ne h1)]; exact ih)
    · split
      · exact ih
      · rename_i h1
        rw [lk_cons]
        split
        · rename_i e1; subst e1; rw [he] at h1; cases h1
        · exact ih
theorem mergeP_lk {ks : List Nat} {e : Env} {t : Nat} {h : HV} : ∀ {re : REnv}, lk (mergeP' ks e re) t = some h → h = .und ∨ lk re t = some ([], h) ∨ (lk re t = none ∧ lk e t = some h)
  | [], hl => .inr (.inr ⟨rfl, hl⟩)
  | (t0, k, h0) :: re, hl => by
    simp only [mergeP'] at hl
    have tail : lk (mergeP' ks e re) t = some h → t0 ≠ t → h = .und ∨ lk ((t0, k, h0) :: re) t = some ([], h) ∨ (lk ((t0, k, h0) :: re) t = none ∧ lk e t = some h) := by
      intro h1 h2
      rw [lk_cons, if_neg h2]
      exact mergeP_lk h1
    split at hl
    · split at hl
      · rw [lk_cons] at hl
        split at hl
        · rename_i e1; simp only [Option.some.injEq] at hl; subst hl; subst e1
          exact .inr (.inl (lk_same _ _ _))
        · rename_i e1; exact tail hl e1
      · rw [lk_cons] at hl
        split at hl
        · simp only [Option.some.injEq] at hl; exact .inl hl.symm
        · rename_i e1; exact tail hl e1
    · rename_i hm
      split at hl
      · rename_i hn
        by_cases e1 : t0 = t
        · subst e1; rw [mergeP_none hm hn] at hl; cases hl
        · exact tail hl e1
      · rw [lk_cons] at hl
        split at hl
        · simp only [Option.some.injEq] at hl; exact .inl hl.symm
        · rename_i e1; exact tail hl e1
def mergeC (c : Ctx) (N : Nat) (re : REnv) (e : Env) (K : Env → Prop) : Prop := match lk c.keep N with
  | none => mergeK re e K
  | some ks => mergeP ks e re K

def mergeH : RH → Hp → Hp
  | [], hp => hp
  | (o, [], vo) :: rh, hp => (o, vo) :: mergeH rh hp
  | (o, _ :: _, _) :: rh, hp => (o, .dead) :: mergeH rh hp
def mergeHK (rh : RH) (hp : Hp) : (Hp → Prop) → Prop :=
  @List.rec (Nat × Key × VO) (fun _ => (Hp → Prop) → Prop) (fun K => K hp) (fun p _ ih K => match p with
    | (o, k, vo) => match k with
      | [] => ih fun hp' => K ((o, vo) :: hp')
      | _ :: _ => ih fun hp' => K ((o, .dead) :: hp')) rh
theorem mergeHK_eq : ∀ (rh : RH) (hp : Hp) (K : Hp → Prop), mergeHK rh hp K = K (mergeH rh hp)
  | [], _, _ => rfl
  | (o, [], vo) :: rh, hp, K => mergeHK_eq rh hp fun hp' => K ((o, vo) :: hp')
  | (o, _ :: _, _) :: rh, hp, K => mergeHK_eq rh hp fun hp' => K ((o, .dead) :: hp')

/-! ### A state seen through fewer names -/
def renId (ρ : List (Nat × Nat)) (o : Nat) : Nat := match lk ρ o with
  | some o' => o'
  | none => o
/-- A name from a million on: a slice that is nil there, and is taken for one's own and empty here. -/
def ownR (k : Nat) (s : Sh) : HV := match Nat.ble 1000000 k with
  | true => .cst (.slice none 0 0)
  | false => .own k s
mutual
def ren (ρ : List (Nat × Nat)) : HV → HV
  | .ptr o r p s => .ptr (renId ρ o) r p s
  | .own o s => ownR (renId ρ o) s
  | .yld o => .yld (renId ρ o)
  | .mp o ks vs => .mp (renId ρ o) ks vs
  | .mit o => .mit (renId ρ o)
  | .fn f cs => .fn f (rens ρ cs)
  | .st ss fs => .st ss (rens ρ fs)
  | .tup vs => .tup (rens ρ vs)
  | h => h
def rens (ρ : List (Nat × Nat)) : List HV → List HV
  | [] => []
  | h :: hs => ren ρ h :: rens ρ hs
end
def renVO (ρ : List (Nat × Nat)) : VO → VO
  | .box s v => .box s (ren ρ v)
  | .iter om since last seen => .iter (renId ρ om) since last seen
  | .vec fs => .vec (rens ρ fs)
  | vo => vo

abbrev ST := Env × Hp × Nat

def envEq (ρ : List (Nat × Nat)) (B : Env) : Env → Prop
  | [] => True
  | (t, h) :: es => lk B t = some (ren ρ h) ∧ envEq ρ B es
def nilVO : VO → Option VO
  | .grow s _ => some (.grow s [])
  | _ => none
/-- A slice of one's own may be given away on the way. -/
def frozen : Option VO → Option VO
  | some (.grow s xs) => some (.froz s xs)
  | x => x
def hpAt (ρ : List (Nat × Nat)) (B : Hp) (o : Nat) (vo : VO) : Option VO := match Nat.ble 1000000 (renId ρ o) with
  | true => nilVO vo
  | false => match vo with
    | .froz _ _ => frozen (lk B (renId ρ o))
    | _ => lk B (renId ρ o)
def hpEq (ρ : List (Nat × Nat)) (B : Hp) : Hp → Prop
  | [] => True
  | (o, vo) :: hs => hpAt ρ B o vo = some (renVO ρ vo) ∧ hpEq ρ B hs
def imgsNew (ρ : List (Nat × Nat)) : Hp → List Nat → Bool
  | [], _ => true
  | (o, _) :: hs, l => !memN (renId ρ o) l && imgsNew ρ hs (renId ρ o :: l)
def keysGe (n : Nat) : List (Nat × Nat) → Bool
  | [] => true
  | (o, _) :: ρ => Nat.ble n o && keysGe n ρ

mutual
def idsLt (n : Nat) : HV → Bool
  | .ptr o _ _ _ => Nat.blt o n
  | .own o _ => Nat.blt o n
  | .yld o => Nat.blt o n
  | .mp o _ _ => Nat.blt o n
  | .mit o => Nat.blt o n
  | .fn _ cs => idssLt n cs
  | .st _ fs => idssLt n fs
  | .tup vs => idssLt n vs
  | _ => true
def idssLt (n : Nat) : List HV → Bool
  | [] => true
  | h :: hs => idsLt n h && idssLt n hs
end
def envLt (n : Nat) : Env → Bool
  | [] => true
  | (_, h) :: es => idsLt n h && envLt n es
def hpLt (n : Nat) : Hp → Bool
  | [] => true
  | (o, .box _ v) :: hs => Nat.blt o n && (idsLt n v && hpLt n hs)
  | (o, .iter om _ _ _) :: hs => Nat.blt o n && (Nat.blt om n && hpLt n hs)
  | (o, .vec fs) :: hs => Nat.blt o n && (idssLt n fs && hpLt n hs)
  | (o, _) :: hs => Nat.blt o n && hpLt n hs

/-- The state B says all that A says, A's names from n0 on read by ρ. -/
def covers (n0 : Nat) (A B : ST) : Prop := ∃ ρ : List (Nat × Nat), (Nat.ble n0 A.2.2 && keysGe n0 ρ && imgsNew ρ A.2.1 [] && envLt A.2.2 A.1 && hpLt A.2.2 A.2.1 && Nat.ble B.2.2 1000000 && Nat.ble A.2.2 1000000) = true ∧ envEq ρ B.1 A.1 ∧ hpEq ρ B.2.1 A.2.1

/-! ### Results -/
def oneRes (c : Ctx) (e : Env) (hp : Hp) : ResultVar → HV
  | .tmp t => match lk e t with
    | some h => h
    | none => .und
  | .cell a t => match vop c 0 (rho e [] []) hp 0 (.load t (.tmp a)) with
    | some ef => ef.hv
    | none => .und
def resList (c : Ctx) (e : Env) (hp : Hp) (rs : List ResultVar) : (List HV → Prop) → Prop :=
  @List.rec ResultVar (fun _ => (List HV → Prop) → Prop) (fun K => K []) (fun r _ ih K => fHV (oneRes c e hp r) fun h => match h with
    | .und => False
    | .tup _ => False
    | h => ih fun l => K (h :: l)) rs
theorem resList_cons (c : Ctx) (e : Env) (hp : Hp) (r : ResultVar) (rs : List ResultVar) (K : List HV → Prop) : resList c e hp (r :: rs) K = fHV (oneRes c e hp r) fun h => match h with
    | .und => False
    | .tup _ => False
    | h => resList c e hp rs fun l => K (h :: l) := rfl
def retK (c : Ctx) (e : Env) (hp : Hp) (rs : List ResultVar) (K : HV → Prop) : Prop := resList c e hp rs fun l => match l with
  | [h] => K h
  | l => K (.tup l)

def argEnv : List HV → Nat → Env
  | [], _ => []
  | h :: hs, i => (i, h) :: argEnv hs (i + 1)
def argEnvK (hs : List HV) : Nat → (Env → Prop) → Prop :=
  @List.rec HV (fun _ => Nat → (Env → Prop) → Prop) (fun _ K => K []) (fun h _ ih i K => fHV h fun h => ih (i + 1) fun e => K ((i, h) :: e)) hs
theorem argEnvK_eq : ∀ (hs : List HV) (i : Nat) (K : Env → Prop), argEnvK hs i K = K (argEnv hs i)
  | [], _, _ => rfl
  | h :: hs, i, K => by show fHV h (fun h => argEnvK hs (i + 1) fun e => K ((i, h) :: e)) = _; rw [fHV_eq, argEnvK_eq hs]; rfl

/-- The end of a function. -/
def endK (c : Ctx) (F : Func) (K : HV → Hp → Nat → Prop) (x : Exit) (e : Env) (hp : Hp) (nx : Nat) : Prop := match x with
  | .normal => retK c e hp F.results.toList fun h => K h hp nx
  | .ret => retK c e hp F.results.toList fun h => K h hp nx
  | _ => False

/-- A call of a function, walked into. -/
def intoFun (c : Ctx) (vc : Nat → Code → Env → Hp → Nat → (Exit → Env → Hp → Nat → Prop) → Prop) (F : Func) (hs : List HV) (hp : Hp) (nx : Nat) (K : HV → Hp → Nat → Prop) : Prop := match F.body with
  | none => False
  | some b => match Nat.ble hs.length F.ntmps with
    | true => argEnvK hs 0 fun e => vc F.ntmps b e hp nx (endK c F K)
    | false => False
/-- How the body of a loop over a function is taken. -/
abbrev YH := List HV → Hp → Nat → (HV → Hp → Nat → Prop) → Prop
abbrev Ys := List (Nat × YH)

def into (c : Ctx) (ys : Ys) (vc : Nat → Code → Env → Hp → Nat → (Exit → Env → Hp → Nat → Prop) → Prop) (k : Cal) (hs : List HV) (hp : Hp) (nx : Nat) (K : HV → Hp → Nat → Prop) : Prop := match k with
  | .fn f => match lk c.funs f with
    | none => False
    | some F => intoFun c vc F hs hp nx K
  | .yl o => match lk ys o with
    | none => False
    | some h => h hs hp nx K

def zipEnv : List Nat → List HV → Env → Env
  | p :: ps, h :: hs, e => zipEnv ps hs ((p, h) :: e)
  | _, _, e => e
def zipEnvK (ps : List Nat) : List HV → Env → (Env → Prop) → Prop :=
  @List.rec Nat (fun _ => List HV → Env → (Env → Prop) → Prop) (fun _ e K => K e) (fun p _ ih hs e K => match hs with
    | h :: hs => ih hs ((p, h) :: e) K
    | [] => K e) ps
theorem zipEnvK_eq : ∀ (ps : List Nat) (hs : List HV) (e : Env) (K : Env → Prop), zipEnvK ps hs e K = K (zipEnv ps hs e)
  | p :: ps, h :: hs, e, K => by simp only [zipEnvK, zipEnv]; exact zipEnvK_eq ps hs _ K
  | [], _, e, K => by simp [zipEnvK, zipEnv]
  | _ :: _, [], e, K => by simp [zipEnvK, zipEnv]
def allBlt (N : Nat) : List Nat → Bool
  | [] => true
  | p :: ps => Nat.blt p N && allBlt N ps

/-- The end of a round. -/
def roundEnd (o : Nat) (Kh : HV → Hp → Nat → Prop) (x : Exit) (hp : Hp) (nx : Nat) : Prop := match lk hp o with
  | some (.loop .busy) => match x with
    | .normal => Kh (.dat .bool (.B true)) ((o, .loop .ready) :: hp) nx
    | .ret => Kh (.dat .bool (.B false)) ((o, .loop (.done .ret)) :: hp) nx
    | .exit j => Kh (.dat .bool (.B false)) ((o, .loop (.done (.exit j))) :: hp) nx
    | .goto l => Kh (.dat .bool (.B false)) ((o, .loop (.done (.goto l))) :: hp) nx
    | _ => False
  | _ => False

/-- A round: the loop's variables are set, the body is run. -/
def roundK (vc : Nat → Code → Env → Hp → Nat → (Exit → Env → Hp → Nat → Prop) → Prop) (N : Nat) (e : Env) (o : Nat) (ps : List Nat) (assign body : Code) : YH := fun hs hp nx Kh =>
  match Nat.beq hs.length ps.length, lk hp o with
  | true, some (.loop .ready) => zipEnvK ps hs e fun e => vc N assign e hp nx fun x e' hp' nx' => match x with
    | .normal => match lk hp' o with
      | some (.loop .ready) => vc N body e' ((o, .loop .busy) :: hp') nx' fun x _ hp2 nx2 => roundEnd o Kh x hp2 nx2
      | _ => False
    | _ => False
  | _, _ => False

/-- Behind the function that was ranged over. -/
def loopEnd (o : Nat) (e : Env) (K : Exit → Env → Hp → Nat → Prop) (hp : Hp) (nx : Nat) : Prop := match lk hp o with
  | some (.loop .ready) => K .normal e ((o, .dead) :: hp) nx
  | some (.loop (.done .ret)) => K .ret e ((o, .dead) :: hp) nx
  | some (.loop (.done (.exit j))) => K (.exit j) e ((o, .dead) :: hp) nx
  | some (.loop (.done (.goto l))) => K (.goto l) e ((o, .dead) :: hp) nx
  | _ => False

def fEnv (e : Env) : (Env → Prop) → Prop :=
  @List.rec (Nat × HV) (fun _ => (Env → Prop) → Prop) (fun K => K []) (fun p _ ih K => match p with
    | (t, h) => fHV h fun h => ih fun e => K ((t, h) :: e)) e
theorem fEnv_eq : ∀ (e : Env) (K : Env → Prop), fEnv e K = K e
  | [], _ => rfl
  | (t, h) :: e, K => by show fHV h (fun h => fEnv e fun e => K ((t, h) :: e)) = _; rw [fHV_eq, fEnv_eq e]
def fHp (hp : Hp) : (Hp → Prop) → Prop :=
  @List.rec (Nat × VO) (fun _ => (Hp → Prop) → Prop) (fun K => K []) (fun u _ ih K => fU u fun u => ih fun hp => K (u :: hp)) hp
theorem fHp_eq : ∀ (hp : Hp) (K : Hp → Prop), fHp hp K = K hp
  | [], _ => rfl
  | u :: hp, K => by show fU u (fun u => fHp hp fun hp => K (u :: hp)) = _; rw [fU_eq, fHp_eq hp]

/-- One step of the evaluator: the condition under which code, from a state, ends as K asks. ys: the loops over functions that run; inR: whether the code is such a loop's body; ih: the evaluator for the parts. -/
def vcStep (c : Ctx) (ih : Ys → Bool → Nat → Code → Env → Hp → Nat → (Exit → Env → Hp → Nat → Prop) → Prop) (ys : Ys) (inR : Bool) (N : Nat) (code : Code) (e : Env) (hp : Hp) (nx : Nat) (K : Exit → Env → Hp → Nat → Prop) : Prop := match code with
    | .skip => K .normal e hp nx
    | .region _ ops draw => match draw with
      | false => vcOps c (into c ys (ih ys false)) N e ops.toList ops.toList [] hp nx fun re hp nx => mergeC c N re e fun e' => K .normal e' hp nx
      | true => vcDrawF c N e hp nx ops.toList ops.toList 0 [] [] [] fun re rh => mergeC c N re e fun e' => mergeHK rh hp fun hp' => K .normal e' hp' (nx + 2 * ops.toList.length)
    | .seq a b => ih ys inR N a e hp nx fun x e hp nx => match x with
      | .normal => ih ys inR N b e hp nx K
      | x => K x e hp nx
    | .cond x a b => match rho e [] [] x with
      | .dat .bool d => (d.bool = true → ih ys inR N a e hp nx K) ∧ (d.bool = false → ih ys inR N b e hp nx K)
      | _ => False
    | .block id b => ih ys inR N b e hp nx fun x e hp nx => match x with
      | .exit j => match Nat.beq j id with
        | true => K .normal e hp nx
        | false => K (.exit j) e hp nx
      | x => K x e hp nx
    | .loop b => ∃ (X : Type) (m : Nat) (mk : X → Env × Hp) (μ : X → Nat) (x0 : X), covers nx ((mk x0).1, (mk x0).2, m) (e, hp, nx) ∧ ∀ x, fEnv (mk x).1 fun e => fHp (mk x).2 fun hp => ih ys inR N b e hp m fun ex e' hp' nx' => match ex with
      | .normal => ∃ x', covers nx ((mk x').1, (mk x').2, m) (e', hp', nx') ∧ μ x' < μ x
      | ex => K ex e' hp' nx'
    | .rangeFunc g ps assign body => match inR || !allBlt N ps.toList with
      | true => False
      | false => match rho e [] [] g with
        | .fn f caps => into c ((nx, roundK (ih ys true) N e nx ps.toList assign body) :: ys) (ih ((nx, roundK (ih ys true) N e nx ps.toList assign body) :: ys) false) (.fn f) (.yld nx :: caps)
          ((nx, .loop .ready) :: hp) (nx + 1) fun _ hp' nx' => loopEnd nx e K hp' nx'
        | _ => False
    | .exit j => K (.exit j) e hp nx
    | .ret => K .ret e hp nx
    | .label _ => K .normal e hp nx
    | .goto l => K (.goto l) e hp nx
    | .scope b => match inR with
      | true => False
      | false => ∃ (l : Nat) (X : Type) (m : Nat) (mk : X → Env × Hp) (μ : X → Nat), (ih ys inR N b e hp nx fun ex e' hp' nx' => match ex with
          | .goto l' => l' = l ∧ ∃ x', covers nx ((mk x').1, (mk x').2, m) (e', hp', nx')
          | ex => K ex e' hp' nx') ∧ (match findLabel b l with
          | none => X → False
          | some rest => ∀ x, fEnv (mk x).1 fun e => fHp (mk x).2 fun hp => ih ys inR N rest e hp m fun ex e' hp' nx' => match ex with
            | .goto l' => l' = l ∧ ∃ x', covers nx ((mk x').1, (mk x').2, m) (e', hp', nx') ∧ μ x' < μ x
            | ex => K ex e' hp' nx')
    | _ => False

/-- The evaluator. -/
def vcCode (c : Ctx) (fu : Nat) : Ys → Bool → Nat → Code → Env → Hp → Nat → (Exit → Env → Hp → Nat → Prop) → Prop :=
  @Nat.rec (fun _ => Ys → Bool → Nat → Code → Env → Hp → Nat → (Exit → Env → Hp → Nat → Prop) → Prop) (fun _ _ _ _ _ _ _ _ => False) (fun _ ih => vcStep c ih) fu
theorem vcCode_succ (c : Ctx) (fu : Nat) : vcCode c (fu + 1) = vcStep c (vcCode c fu) := rfl

/-- A function, from its arguments. -/
def vcFun (c : Ctx) (fu : Nat) (F : Func) (hs : List HV) (hp : Hp) (nx : Nat) (K : HV → Hp → Nat → Prop) : Prop := intoFun c (vcCode c fu [] false) F hs hp nx K
end Go.Vm
