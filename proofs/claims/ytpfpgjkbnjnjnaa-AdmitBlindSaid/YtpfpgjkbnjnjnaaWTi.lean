/- Stores: what the laws lean on; StoreChanges. -/
import Derived.Test.YtpfpgjkbnjnjnaaWTg
namespace Go.Proofs.Ytpfpgjkbnjnjnaa
open Go Go.Vm Rg
set_option linter.unusedSimpArgs false
set_option linter.unusedVariables false
set_option maxRecDepth 10000
/-! ### Copies, likeness, lightness -/
def sOwn : Sum := ⟨[storeS], fun
  | [s] => some (nG s ≤ 10)
  | _ => none, fun
  | [s] => .dat storeS s
  | _ => .und⟩
def sameT (a b : D) : Bool := nG a == nG b && (a.nth 1).int == (b.nth 1).int && (a.nth 2).int == (b.nth 2).int && (a.nth 3).int == (b.nth 3).int && (List.range (nG a)).all fun i => eqD ringS (rgAt a i) (rgAt b i)
def sSameT : Sum := ⟨[storeS, storeS], fun
  | [a, _] => some (nG a ≤ 12)
  | _ => none, fun
  | [a, b] => .dat .bool (.B (sameT a b))
  | _ => .und⟩
def sLight : Sum := ⟨[storeS], fun _ => none, fun
  | [s] => .dat .bool (.B (leB (nG s) 10))
  | _ => .und⟩
def lightC (c : D) : Bool := leB (Cf.nC c) 12 && leB (Cf.nR c) 12
def sLightC : Sum := ⟨[Cf.configS], fun _ => none, fun
  | [c] => .dat .bool (.B (lightC c))
  | _ => .und⟩
/-! ### The example -/
def exR : Nat → D
  | 0 => D0 (.arr 6 Cf.tenS)
  | i + 1 => D.puts (.arr 6 Cf.tenS) (exR i) [.idx i, .fld 0] (.I 1)
def exL : List D := [.L [.I 0, .I 2, .I 9], .L [.I 2, .I 1, .I 9]]
def exA (i : Nat) : D := .L [.L exL, exR i, .L [], .I 2]
def sEx : Sum := ⟨[], fun _ => none, fun _ => .dat Cf.configS (exA 6)⟩
def evD1 (l k v : Int) : D := .L [.I l, .I k, .I v]
def sTwo : Sum := ⟨[], fun _ => none, fun _ => .dat storeS (putT (putT (newT (exA 6)) (evD1 2 0 5)) (evD1 0 1 6))⟩
def cAw : Ctx := ⟨tabT, refsT, [(40, sNewT), (50, sPutT)], [], keep, mpsT⟩
def sTrueT : Sum := ⟨[], fun _ => none, fun _ => .dat .bool (.B true)⟩
theorem cAw_ok : CtxOK Try.prog cAw := ctxT (.cons newT_ok' (.cons putT_ok .nil))
theorem sameT_rfl (s : D) : sameT s s = true := by
  simp only [sameT, beq_self_eq_true, Bool.true_and]
  exact all_range fun i _ => eqRing _
theorem putT_len (s e : D) : nG (putT s e) ≤ nG s := by
  rw [putT]
  split
  · exact Nat.zero_le _
  · show ((rgs s).set _ _).length ≤ (rgs s).length
    rw [List.length_set]; exact Nat.le_refl _
theorem tickT_len (s : D) : nG (tickT s) ≤ nG s := by
  rw [tickT]
  split
  · exact Nat.zero_le _
  · show (tickL s (nG s)).length ≤ nG s
    rw [tickL_len (Nat.le_refl _)]; exact Nat.le_refl _
theorem newT_len (c : D) : nG (newT c) ≤ 8 := by
  rw [newT]
  split
  · exact Nat.zero_le _
  · rename_i h
    show (newRgs c (Cf.nC c)).length ≤ 8
    rw [newRgs_len]; exact nw_len (by simpa using h)
def sChanges : Sum := ⟨[storeS, eventS, Cf.configS], fun _ => none, fun _ => .dat .bool (.B true)⟩
def cCh : Ctx := ⟨tabT, refsT, [(50, sPutT), (42, sChk), (35, sTick), (40, sNewT)], [], keep, mpsT⟩
theorem cCh_ok : CtxOK Try.prog cCh := ctxT (.cons putT_ok (.cons checkT_ok (.cons tickT_ok (.cons newT_ok' .nil))))
end Go.Proofs.Ytpfpgjkbnjnjnaa
