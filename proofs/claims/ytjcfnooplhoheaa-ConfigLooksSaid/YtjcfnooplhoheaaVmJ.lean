/- One operation: what the evaluator makes of it. -/
import Derived.Test.YtjcfnooplhoheaaVmIm
noncomputable section
namespace Go.Vm
open Go

/-- What is known of a function: the shapes of its arguments, when it returns, and what. -/
structure Sum where
  shs : List Sh
  pre : List D → Option Prop
  res : List D → HV

/-- What a function is given that writes into a slice of its caller's: data, a function. -/
inductive MP where
  | dat (s : Sh) | fn (n : Nat)
/-- What is known of a function that writes into the slice that it is given first. -/
structure MSum where
  s : Sh
  pats : List MP
  pre : List D → List D → Option Prop
  res : List D → List D → HV
  out : List D → List D → List D

/-- What a type is that is no data: a map, a slice of functions. (Or, with a million on the function's number, such a function.) -/
inductive MI where
  | map (ks vs : Sh) | vec | msum (M : MSum)

structure Ctx where
  tab : List (Nat × Sh)
  refs : List (Nat × Value)
  sums : List (Nat × Sum)
  funs : List (Nat × Func)
  keep : List (Nat × List Nat) := []
  maps : List (Nat × MI) := []

def tyOf (c : Ctx) (t : Nat) : Option (Sh × Option Value) := match lk c.tab t with
  | some s => some (s, none)
  | none => match lk c.refs t with
    | some z => some (.ref, some z)
    | none => none

structure Ef where
  hv : HV
  upd : List (Nat × VO)
  nx : Nat
  pre : Option Prop

def isNil : Value → Bool
  | .slice a l k => match a with
    | none => Nat.beq l 0 && Nat.beq k 0
    | some _ => false
  | _ => false
theorem isNil_eq {v : Value} (h : isNil v = true) : v = .slice none 0 0 := by
  unfold isNil at h
  split at h
  · split at h
    · simp only [Bool.and_eq_true] at h
      rw [Nat.eq_of_beq_eq_true h.1, Nat.eq_of_beq_eq_true h.2]
    · cases h
  · cases h

mutual
/-- A value as data of a shape. -/
def argD (hp : Hp) : Sh → HV → Option D
  | s, .dat s' d => match s'.beq s with
    | true => some d
    | false => none
  | .slice s, .own o s' => match s'.beq s with
    | true => match lk hp o with
      | some (.grow s2 xs) => match s2.beq s with
        | true => some (.L xs)
        | false => none
      | some (.froz s2 xs) => match s2.beq s with
        | true => some (.L xs)
        | false => none
      | _ => none
    | false => none
  | .slice _, .cst v => match isNil v with
    | true => some (.L [])
    | false => none
  | .struct ss, .st ss' fs => match Sh.beqs ss' ss with
    | true => match argDs hp ss fs with
      | some ds => some (.L ds)
      | none => none
    | false => none
  | _, _ => none
def argDs (hp : Hp) : List Sh → List HV → Option (List D)
  | [], [] => some []
  | s :: ss, h :: hs => match argD hp s h with
    | some d => match argDs hp ss hs with
      | some ds => some (d :: ds)
      | none => none
    | none => none
  | _, _ => none
end

/-- All of them data that lead nowhere else. -/
def HV.plain : HV → Bool
  | .dat s _ => s.flat
  | _ => false
def plains : List HV → Bool
  | [] => true
  | h :: hs => h.plain && plains hs
def HV.flatRes : HV → Bool
  | .dat s _ => s.flat
  | .tup vs => plains vs
  | _ => false
/-- Data, whatever they lead to. -/
def HV.isDat : HV → Bool
  | .dat _ _ => true
  | _ => false
def allIsDat : List HV → Bool
  | [] => true
  | h :: hs => h.isDat && allIsDat hs

def HV.isFn : HV → Bool
  | .tup _ | .und => false
  | _ => true
def allStorable : List HV → Bool
  | [] => true
  | h :: hs => h.isFn && allStorable hs

/-- The same, list by list (which reckons faster). -/
def argDL (hp : Hp) (ss : List Sh) : List HV → Option (List D) :=
  @List.rec Sh (fun _ => List HV → Option (List D)) (fun hs => match hs with
    | [] => some []
    | _ :: _ => none) (fun s _ r hs => match hs with
    | [] => none
    | h :: hs => match argD hp s h with
      | some d => match r hs with
        | some ds => some (d :: ds)
        | none => none
      | none => none) ss
theorem argDL_eq (hp : Hp) : ∀ (ss : List Sh) (hs : List HV), argDL hp ss hs = argDs hp ss hs
  | [], [] => by simp [argDL, argDs]
  | [], _ :: _ => by simp [argDL, argDs]
  | _ :: _, [] => by simp [argDL, argDs]
  | s :: ss, h :: hs => by
    have ih := argDL_eq hp ss hs
    show (match argD hp s h with
      | some d => match argDL hp ss hs with
        | some ds => some (d :: ds)
        | none => none
      | none => none) = _
    rw [ih]; simp only [argDs]
/-- A value, written out as far as its form; a list of them. -/
def fHVo (h : HV) (K : HV → Option Ef) : Option Ef := match h with
  | .dat s d => K (.dat s d)
  | .ptr o r p s => K (.ptr o r p s)
  | .own o s => K (.own o s)
  | .gptr s d => K (.gptr s d)
  | .fn f cs => K (.fn f cs)
  | .st ss fs => K (.st ss fs)
  | .tup vs => K (.tup vs)
  | .cst v => K (.cst v)
  | .yld o => K (.yld o)
  | .mp o ks vs => K (.mp o ks vs)
  | .mit o => K (.mit o)
  | .und => K .und
theorem fHVo_eq (h : HV) (K : HV → Option Ef) : fHVo h K = K h := by cases h <;> rfl
def fHVsO (hs : List HV) : (List HV → Option Ef) → Option Ef :=
  @List.rec HV (fun _ => (List HV → Option Ef) → Option Ef) (fun K => K []) (fun h _ ih K => fHVo h fun h => ih fun hs => K (h :: hs)) hs
theorem fHVsO_eq : ∀ (hs : List HV) (K : List HV → Option Ef), fHVsO hs K = K hs
  | [], _ => rfl
  | h :: hs, K => by show fHVo h (fun h => fHVsO hs fun hs => K (h :: hs)) = _; rw [fHVo_eq, fHVsO_eq hs]

/-- The slices of one's own that a value holds. -/
def ownIds (h : HV) : List Nat := match h with
  | .own o _ => [o]
  | .st _ fs => @List.rec HV (fun _ => List Nat) [] (fun h _ ih => match h with
    | .own o _ => o :: ih
    | _ => ih) fs
  | _ => []
def ownIdsL (hs : List HV) : List Nat := @List.rec HV (fun _ => List Nat) [] (fun h _ ih => ownIds h ++ ih) hs
/-- No struct within a struct. -/
def shallow (h : HV) : Bool := match h with
  | .st _ fs => @List.rec HV (fun _ => Bool) true (fun h _ ih => match h with
    | .st _ _ => false
    | _ => ih) fs
  | _ => true
def shallowL (hs : List HV) : Bool := @List.rec HV (fun _ => Bool) true (fun h _ ih => shallow h && ih) hs
/-- What is given away is one's own no longer. -/
def frzU (hp : Hp) (l : List Nat) : List (Nat × VO) → Option (List (Nat × VO)) :=
  @List.rec Nat (fun _ => List (Nat × VO) → Option (List (Nat × VO))) (fun u => some u) (fun o _ ih u => match lk (u ++ hp) o with
    | some (.grow s xs) => ih ((o, .froz s xs) :: u)
    | some (.froz _ _) => ih u
    | _ => none) l
def mpArgs : List MP → List HV → Option (List D)
  | [], [] => some []
  | .dat s :: ps, .dat s' d :: hs => match s'.beq s with
    | true => match mpArgs ps hs with
      | some ds => some (d :: ds)
      | none => none
    | false => none
  | .fn n :: ps, .fn m [] :: hs => match Nat.beq n m with
    | true => mpArgs ps hs
    | false => none
  | _, _ => none
def mutCall (M : MSum) (nx : Nat) (hp : Hp) (hs : List HV) : Option Ef := match hs with
  | .own o s' :: rest => match s'.beq M.s, lk hp o, mpArgs M.pats rest with
    | true, some (.grow s2 xs), some ds => match s2.beq M.s && M.s.flat && (M.res xs ds).flatRes with
      | true => some ⟨M.res xs ds, [(o, .grow M.s (M.out xs ds))], nx, M.pre xs ds⟩
      | false => none
    | _, _, _ => none
  | _ => none
def doCall (c : Ctx) (nx : Nat) (hp : Hp) (f : Nat) (hs : List HV) : Option Ef :=
  match lk c.sums f with
  | none => match lk c.maps (f + 1000000) with
    | some (.msum M) => mutCall M nx hp hs
    | _ => none
  | some S => match argDL hp S.shs hs with
    | none => none
    | some ds => match (S.res ds).flatRes || allIsDat hs with
      | true => some ⟨S.res ds, [], nx, S.pre ds⟩
      | false => match shallowL hs with
        | true => match frzU hp (ownIdsL hs) [] with
          | some u => some ⟨S.res ds, u, nx, S.pre ds⟩
          | none => none
        | false => none

/-- A bound of a slice expression. -/
def bnd (ρ : Operand → HV) : Option Operand → Int → Option Int
  | none, n => some n
  | some y, _ => match ρ y with
    | .dat (.int _) a => some a.int
    | _ => none
/-- The operands of a slice of functions, given in order. -/
def vecArgs (ρ : Operand → HV) : List (Nat × Operand) → Nat → Option (List HV)
  | [], _ => some []
  | (i, x) :: l, j => match Nat.beq i j && fits .ref (ρ x) with
    | true => match vecArgs ρ l (j + 1) with
      | some hs => some (ρ x :: hs)
      | none => none
    | false => none

/-- A byte of a string. -/
def strAt (s : ByteArray) (i : Int) : Int := match s[i.toNat]? with
  | some b => (b.toNat : Int)
  | none => 0

def vop0 (c : Ctx) (nx : Nat) (ρ : Operand → HV) (hp : Hp) (ty : Nat) : Op → Option Ef
  | .move x | .assign x => match x with
    | .const v => match isNil v with
      | true => match lk c.tab ty with
        | some (.slice s) => some ⟨.own nx s, [(nx, .grow s [])], nx + 1, none⟩
        | _ => none
      | false => some ⟨ρ (.const v), [], nx, none⟩
    | x => some ⟨ρ x, [], nx, none⟩
  | .alloc t => match lk c.tab t with
   | some (.slice s) => some ⟨.ptr (nx + 1) (.slice s) [] (.slice s), [(nx + 1, .box (.slice s) (.own nx s)), (nx, .grow s [])], nx + 2, none⟩
   | _ => match tyOf c t with
    | some (s, z) => some ⟨.ptr nx s [] s, [(nx, .box s (H0 z s))], nx + 1, none⟩
    | none => none
  | .box t x => match tyOf c t with
    | some (s, _) => match fits s (ρ x) with
      | true => some ⟨.ptr nx s [] s, [(nx, .box s (ρ x))], nx + 1, none⟩
      | false => none
    | none => none
  | .build t ps => match lk c.tab t with
    | some (.struct ss) => match putFields ρ ss (H0s ss) ps.toList with
      | some fs => some ⟨mkSt ss fs, [], nx, none⟩
      | none => none
    | some (.arr n s) => match putElems ρ s (List.replicate n (D0 s)) ps.toList with
      | some xs => some ⟨.dat (.arr n s) (.L xs), [], nx, none⟩
      | none => none
    | _ => none
  | .load t x => match ρ x with
    | .ptr o _ p s => match tyOf c t with
      | some (s', _) => match s'.beq s with
        | true => match lk hp o with
          | some (.box _ v) => match v.getP p s with
            | .und => none
            | h => some ⟨h, [], nx, none⟩
          | some (.grow s0 xs) => match (HV.dat (.arr xs.length s0) (.L xs)).getP p s with
            | .und => none
            | h => some ⟨h, [], nx, none⟩
          | some (.vec fs) => match p with
            | [.idx i] => match fs[i]? with
              | some h => match fits s h with
                | true => some ⟨h, [], nx, none⟩
                | false => none
              | none => none
            | _ => none
          | _ => none
        | false => none
      | none => none
    | .gptr s d => match lk c.tab t with
      | some s' => match s'.beq s with
        | true => some ⟨.dat s d, [], nx, none⟩
        | false => none
      | none => none
    | _ => none
  | .store t a x => match ρ a with
    | .ptr o _ p s => match tyOf c t with
      | some (s', _) => match s'.beq s && fits s (ρ x) with
        | true => match lk hp o with
          | some (.box sb v) => match v.putP p (ρ x) with
            | some h => some ⟨.und, [(o, .box sb h)], nx, none⟩
            | none => none
          | some (.grow s0 xs) => match p, ρ x with
            | .idx i :: p', .dat _ e => some ⟨.und, [(o, .grow s0 (xs.set i (D.puts s0 (xs.getD i .Z) p' e)))], nx, none⟩
            | _, _ => none
          | _ => none
        | false => none
      | none => none
    | _ => none
  | .binOp op t x y _ => match ρ x, ρ y with
    | .dat (.int k) a, .dat (.int k') b => match arith op k k' a.int b.int with
      | some (h, p) => some ⟨h, [], nx, p⟩
      | none => none
    | .dat .bool a, .dat .bool b => match lk c.tab t with
      | some .bool => match op with
        | .eql => some ⟨.dat .bool (.B (a.bool == b.bool)), [], nx, none⟩
        | .neq => some ⟨.dat .bool (.B (!(a.bool == b.bool))), [], nx, none⟩
        | _ => none
      | _ => none
    | .dat s a, .dat s' b => match lk c.tab t with
      | some s2 => match s.agg && s.beq s' && s.beq s2 && s.flat && Nat.ble s.depth 1000 with
        | true => match op with
          | .eql => some ⟨.dat .bool (.B (eqD s a b)), [], nx, none⟩
          | .neq => some ⟨.dat .bool (.B (!eqD s a b)), [], nx, none⟩
          | _ => none
        | false => none
      | none => none
    | _, _ => none
  | .unOp op _ x => match op, ρ x with
    | .not, .dat .bool d => some ⟨.dat .bool (.B (!d.bool)), [], nx, none⟩
    | .neg, .dat (.int k) d => some ⟨.dat (.int k) (.I (k.wrap (0 - d.int))), [], nx, none⟩
    | .xor, .dat (.int k) d => some ⟨.dat (.int k) (.I (bitsOp .xor k (if k.signed then -1 else k.max) d.int)), [], nx, none⟩
    | _, _ => none
  | .convert src dst x => match ρ x, lk c.tab src, lk c.tab dst with
    | .dat (.int _) d, some (.int _), some (.int k) => some ⟨.dat (.int k) (.I (k.wrap d.int)), [], nx, none⟩
    | _, _, _ => none
  | .makeFunc (.func f) first caps => match first.toList, allStorable (caps.toList.map ρ) with
    | [], true => some ⟨.fn f (caps.toList.map ρ), [], nx, none⟩
    | _, _ => none
  | .fieldAddr t x i => match ρ x, lk c.tab t with
    | .ptr o r p s, some s' => match s'.beq s with
      | true => match s.step (.fld i) with
        | some (s1, _) => some ⟨.ptr o r (p ++ [.fld i]) s1, [], nx, none⟩
        | none => none
      | false => none
    | .gptr s d, some s' => match s'.beq s with
      | true => match s.step (.fld i) with
        | some (s1, _) => some ⟨.gptr s1 (d.nth i), [], nx, none⟩
        | none => none
      | false => none
    | _, _ => none
  | .indexAddr t x ix => match ρ ix with
    | .dat (.int _) k => match lk c.tab t, ρ x with
      | some (.arr n s1), .ptr o r p s => match (Sh.arr n s1).beq s with
        | true => some ⟨.ptr o r (p ++ [.idx k.int.toNat]) s1, [], nx, some (0 ≤ k.int ∧ k.int < n)⟩
        | false => none
      | some (.arr n s1), .gptr s d => match (Sh.arr n s1).beq s with
        | true => some ⟨.gptr s1 (d.nth k.int.toNat), [], nx, some (0 ≤ k.int ∧ k.int < n)⟩
        | false => none
      | some (.slice s1), .own o s => match s1.beq s with
        | true => match lk hp o with
          | some (.grow s0 xs) => match s0.beq s1 with
            | true => some ⟨.ptr o (.arr xs.length s1) [.idx k.int.toNat] s1, [], nx, some (0 ≤ k.int ∧ k.int < xs.length)⟩
            | false => none
          | some (.froz s0 xs) => match s0.beq s1 with
            | true => some ⟨.gptr s1 (xs.getD k.int.toNat .Z), [], nx, some (0 ≤ k.int ∧ k.int < xs.length)⟩
            | false => none
          | _ => none
        | false => none
      | some (.slice s1), .dat s d => match s.beq (.slice s1) with
        | true => some ⟨.gptr s1 (d.list.getD k.int.toNat .Z), [], nx, some (0 ≤ k.int ∧ k.int < d.list.length)⟩
        | false => none
      | none, .own o .ref => match lk c.maps t, lk hp o with
        | some .vec, some (.vec fs) => some ⟨.ptr o (.arr fs.length .ref) [.idx k.int.toNat] .ref, [], nx, some (0 ≤ k.int ∧ k.int < fs.length)⟩
        | _, _ => none
      | _, _ => none
    | _ => none
  | .field t x i => match ρ x, lk c.tab t with
    | .dat (.struct ss) d, some s' => match s'.beq (.struct ss) with
      | true => match ss[i]? with
        | some s1 => some ⟨.dat s1 (d.nth i), [], nx, none⟩
        | none => none
      | false => none
    | .st ss fs, some s' => match s'.beq (.struct ss) with
      | true => match fs[i]?, ss[i]? with
        | some f, some s1 => match fits s1 f with
          | true => some ⟨f, [], nx, none⟩
          | false => none
        | _, _ => none
      | false => none
    | _, _ => none
  | .index t x ix => match ρ x, ρ ix, lk c.tab t with
    | .dat (.arr n s) d, .dat (.int _) k, some s' => match s'.beq (.arr n s) with
      | true => some ⟨.dat s (d.nth k.int.toNat), [], nx, some (0 ≤ k.int ∧ k.int < n)⟩
      | false => none
    | .dat .str d, .dat (.int _) k, some .str => some ⟨.dat (.int .u8) (.I (strAt d.str k.int)), [], nx, some (0 ≤ k.int ∧ k.int < d.str.size)⟩
    | _, _, _ => none
  | .extract x i => match ρ x with
    | .tup vs => match vs[i]? with
      | some h => some ⟨h, [], nx, none⟩
      | none => none
    | _ => none
  | .buildSlice t n ps => match lk c.tab t with
    | some (.slice s) => match putElems ρ s (List.replicate n (D0 s)) ps.toList with
      | some xs => match Nat.ble (n * s.size) 16777216 && Nat.ble n 16777216 with
        | true => some ⟨.own nx s, [(nx, .grow s xs)], nx + 1, none⟩
        | false => none
      | none => none
    | none => match lk c.maps t with
      | some .vec => match vecArgs ρ ps.toList 0 with
        | some fs => match Nat.beq fs.length n && Nat.ble n 1000 with
          | true => some ⟨.own nx .ref, [(nx, .vec fs)], nx + 1, none⟩
          | false => none
        | none => none
      | _ => none
    | _ => none
  | .slice t x lo hi mx => match lk c.tab t with
    | some (.slice s1) => match mx with
      | none => match ρ x with
        | .dat (.slice s) d => match s.beq s1, bnd ρ lo 0, bnd ρ hi d.list.length with
          | true, some a, some b => some ⟨.dat (.slice s) (.L ((d.list.drop a.toNat).take (b - a).toNat)), [], nx, some (0 ≤ a ∧ a ≤ b ∧ b ≤ d.list.length)⟩
          | _, _, _ => none
        | .own o s => match lk hp o with
          | some (.froz s0 xs) => match s.beq s1 && s0.beq s1, bnd ρ lo 0, bnd ρ hi xs.length with
            | true, some a, some b => some ⟨.dat (.slice s1) (.L ((xs.drop a.toNat).take (b - a).toNat)), [], nx, some (0 ≤ a ∧ a ≤ b ∧ b ≤ xs.length)⟩
            | _, _, _ => none
          | some (.grow s0 xs) => match s.beq s1 && s0.beq s1, bnd ρ lo 0, bnd ρ hi xs.length with
            | true, some a, some b => some ⟨.dat (.slice s1) (.L ((xs.drop a.toNat).take (b - a).toNat)), [(o, .froz s0 xs)], nx, some (0 ≤ a ∧ a ≤ b ∧ b ≤ xs.length)⟩
            | _, _, _ => none
          | _ => none
        | _ => none
      | some m => match lo, hi with
        | none, some h => match ρ h, ρ m, argD hp (.slice s1) (ρ x) with
          | .dat (.int _) a, .dat (.int _) b, some _ => some ⟨.own nx s1, [(nx, .grow s1 [])], nx + 1, some (a.int = 0 ∧ b.int = 0)⟩
          | _, _, _ => none
        | _, _ => none
    | _ => none
  | .makeMap t r => match r, lk c.maps t with
    | none, some (.map ks vs) => some ⟨.mp nx ks vs, [(nx, .map ks vs [])], nx + 1, none⟩
    | some y, some (.map ks vs) => match ρ y with
      | .dat (.int _) _ => some ⟨.mp nx ks vs, [(nx, .map ks vs [])], nx + 1, none⟩
      | _ => none
    | _, _ => none
  | .insert t m k v | .mapUpdate t m k v => match lk c.maps t, ρ m, ρ k, ρ v with
    | some (.map (.int q) vs), .mp o (.int q1) vs1, .dat (.int q2) kd, .dat s vd => match decide (q1 = q) && decide (q2 = q) && vs1.beq vs && s.beq vs, lk hp o with
      | true, some (.map (.int q3) vs3 es) => match decide (q3 = q) && vs3.beq vs with
        | true => some ⟨.und, [(o, .map (.int q) vs (mPut kd vd es))], nx, none⟩
        | false => none
      | _, _ => none
    | _, _, _, _ => none
  | .lookup t m k ok => match lk c.maps t, ρ m, ρ k with
    | some (.map (.int q) vs), .mp o (.int q1) vs1, .dat (.int q2) kd => match decide (q1 = q) && decide (q2 = q) && vs1.beq vs, lk hp o with
      | true, some (.map (.int q3) vs3 es) => match decide (q3 = q) && vs3.beq vs with
        | true => match ok with
          | true => some ⟨.tup [.dat vs (mGet (D0 vs) kd.int es), .dat .bool (.B (mHas kd.int es))], [], nx, none⟩
          | false => some ⟨.dat vs (mGet (D0 vs) kd.int es), [], nx, none⟩
        | false => none
      | _, _ => none
    | _, _, _ => none
  | .range t m => match lk c.maps t, ρ m with
    | some (.map _ _), .mp o _ _ => match lk hp o with
      | some (.map _ _ es) => some ⟨.mit nx, [(nx, .iter o es.length es.length [])], nx + 1, none⟩
      | _ => none
    | _, _ => none
  | .entry x => match ρ x with
    | .mit o => match lk hp o with
      | some (.iter om _ last seen) => match lk hp om, seen.getLast? with
        | some (.map ks vs es), some i => some ⟨.tup [.dat ks (es.getD i (.Z, .Z)).1, .dat vs (es.getD i (.Z, .Z)).2], [], nx, some (last = es.length ∧ i < es.length)⟩
        | _, _ => none
      | _ => none
    | _ => none
  | .makeSlice t l k => match lk c.tab t, ρ l, ρ k with
    | some (.slice s), .dat (.int _) a, .dat (.int _) b => some ⟨.own nx s, [(nx, .grow s (List.replicate a.int.toNat (D0 s)))], nx + 1, some (0 ≤ a.int ∧ a.int ≤ b.int ∧ b.int ≤ 1073741824)⟩
    | _, _, _ => none
  | .nilCheck x => match ρ x with
    | .ptr o r p s => some ⟨.ptr o r p s, [], nx, none⟩
    | .gptr s d => some ⟨.gptr s d, [], nx, none⟩
    | .fn f cs => some ⟨.fn f cs, [], nx, none⟩
    | _ => none
  | .call { callee := .builtin .len, args, argTypes } => match args.toList, argTypes.toList with
    | [x], [t] => match ρ x, lk c.tab t with
      | .dat (.slice _) d, some (.slice _) => some ⟨.dat (.int .i64) (.I d.list.length), [], nx, none⟩
      | .own o _, some (.slice _) => match lk hp o with
        | some (.grow _ xs) => some ⟨.dat (.int .i64) (.I xs.length), [], nx, none⟩
        | some (.froz _ xs) => some ⟨.dat (.int .i64) (.I xs.length), [], nx, none⟩
        | _ => none
      | .own o _, none => match lk c.maps t, lk hp o with
        | some .vec, some (.vec fs) => some ⟨.dat (.int .i64) (.I fs.length), [], nx, some (fs.length ≤ 1000)⟩
        | _, _ => none
      | .mp o _ _, none => match lk c.maps t, lk hp o with
        | some (.map _ _), some (.map _ _ es) => some ⟨.dat (.int .i64) (.I es.length), [], nx, some (es.length ≤ 9223372036854775807)⟩
        | _, _ => none
      | _, some (.arr n _) => match Nat.ble n 1073741824 with
        | true => some ⟨.dat (.int .i64) (.I n), [], nx, none⟩
        | false => none
      | _, _ => none
    | _, _ => none
  | .call { callee := .builtin .max, args, .. } => match args.toList with
    | [x, y] => match ρ x, ρ y with
      | .dat (.int k) a, .dat (.int k') b => match decide (k = k') with
        | true => some ⟨.dat (.int k) (.I (if b.int > a.int then b.int else a.int)), [], nx, none⟩
        | false => none
      | _, _ => none
    | _ => none
  | .call { callee := .builtin .min, args, .. } => match args.toList with
    | [x, y] => match ρ x, ρ y with
      | .dat (.int k) a, .dat (.int k') b => match decide (k = k') with
        | true => some ⟨.dat (.int k) (.I (if b.int < a.int then b.int else a.int)), [], nx, none⟩
        | false => none
      | _, _ => none
    | _ => none
  | .call { callee := .builtin .append, args, argTypes } => match args.toList, argTypes.toList with
    | [x, y], [t, t'] => match lk c.tab t, lk c.tab t' with
      | some (.slice s), some (.slice s') => match s'.beq s, argD hp (.slice s) (ρ y) with
        | true, some e => match ρ x with
          | .own o s1 => match s1.beq s, lk hp o with
            | true, some (.grow s2 xs) => match s2.beq s with
              | true => some ⟨.own nx s, [(nx, .grow s (xs ++ e.list)), (o, .dead)], nx + 1, some (xs.length + e.list.length ≤ 1073741824)⟩
              | false => none
            | _, _ => none
          | .cst v => match isNil v with
            | true => some ⟨.own (nx + 1) s, [(nx + 1, .grow s e.list), (nx, .dead)], nx + 2, some (e.list.length ≤ 1073741824)⟩
            | false => none
          | _ => none
        | _, _ => none
      | _, _ => none
    | _, _ => none
  | .call { callee := .value f, args, .. } => match ρ f with
    | .fn n caps => fHVsO (args.toList.map ρ ++ caps) fun hs => doCall c nx hp n hs
    | _ => none
  | _ => none
where
  /-- Elements, some of them put in. -/
  putElems (ρ : Operand → HV) (s : Sh) : List D → List (Nat × Operand) → Option (List D)
    | xs, [] => some xs
    | xs, (i, x) :: rest => match ρ x with
      | .dat s' d => match s'.beq s && Nat.blt i xs.length with
        | true => putElems ρ s (xs.set i d) rest
        | false => none
      | _ => none
end Go.Vm
