/- Events' bytes; 'AdmitKnown'. -/
import Derived.Test.YtpfpgjkbnjnjnaaWMg
namespace Go.Proofs.Ytpfpgjkbnjnjnaa
open Go Go.Vm Rg
set_option linter.unusedSimpArgs false
set_option linter.unusedVariables false
set_option maxRecDepth 10000
abbrev u8 : Sh := .int .u8
def octL (n : Int) (k : Nat) : List D := (List.range k).map fun (j : Nat) => .I (IntKind.u8.wrap (shr .u64 n (56 - 8 * (j : Int))))
def sOct : OSum := ⟨[u64], fun _ => none, u8, false, fun
  | [n] => octL n.int 8
  | _ => []⟩
theorem octL_succ (n : Int) (i : Nat) : octL n i ++ [.I (IntKind.u8.wrap (shr .u64 n (56 - 8 * (i : Int))))] = octL n (i + 1) := by
  rw [octL, octL, List.range_succ, List.map_append]; rfl
theorem oct_fun : FunOOK c0W 60 Try.f28 sOct := fun n hn _ => by
  refine ⟨{ i : Nat // i ≤ 8 }, 3, fun i => ([(5, .dat i64 (.I (56 - 8 * (i.1 : Int)))), (4, .own 2 u8), (3, .dat u64 (.I n.int)), (2, .own 0 u8), (0, .dat u64 (.I n.int))], [(2, .grow u8 (octL n.int i.1)), (0, .grow u8 [])]), fun i => 8 - i.1,
    ⟨0, by omega⟩, ⟨[(2, 1)], rfl, ⟨rfl, rfl, rfl, rfl, rfl, trivial⟩, ⟨rfl, rfl, trivial⟩⟩, ?_⟩
  intro i
  obtain ⟨i, hi⟩ := i
  have step : leB 0 (56 - 8 * (i : Int)) = true → i < 8 := fun h => by rw [leB_true] at h; omega
  have stop : leB 0 (56 - 8 * (i : Int)) = false → i = 8 := fun h => by
    have h1 : ¬ leB 0 (56 - 8 * (i : Int)) = true := by rw [h]; decide
    rw [leB_true] at h1; omega
  have hlen : (octL n.int i).length = i := by rw [octL, List.length_map, List.length_range]
  have hw : IntKind.i64.wrap (56 - 8 * (i : Int) - 8) = 56 - 8 * ((i + 1 : Nat) : Int) := by rw [wrap_i64 (by omega) (by omega)]; omega
  refine ⟨fun h1 => ⟨?_, ?_, ?_⟩, fun h1 => ⟨⟨by decide, by decide⟩, bearsL_eq ?_⟩⟩
  · have := step h1
    show (0 : Int) ≤ 56 - 8 * (i : Int)
    omega
  · have := step h1
    show (octL n.int i).length + 1 ≤ 1073741824
    omega
  · have h2 := step h1
    exact ⟨⟨i + 1, h2⟩, ⟨[(2, 4)], rfl, ⟨slot hw, rfl, rfl, rfl, rfl, trivial⟩, ⟨gro (octL_succ n.int i), rfl, trivial⟩⟩, stepLt h2⟩
  · have h2 := stop h1
    show octL n.int i = octL n.int 8
    rw [h2]
def sOctI : OSum := ⟨[i64], fun _ => none, u8, false, fun
  | [n] => octL (IntKind.u64.wrap n.int) 8
  | _ => []⟩
theorem octI_fun : FunOOK c0W 60 Try.f29 sOctI := fun n hn _ => by
  refine ⟨{ i : Nat // i ≤ 8 }, 3, fun i => ([(5, .dat i64 (.I (56 - 8 * (i.1 : Int)))), (4, .own 2 u8), (3, .dat u64 (.I (IntKind.u64.wrap n.int))), (2, .own 0 u8), (0, .dat i64 (.I n.int))], [(2, .grow u8 (octL (IntKind.u64.wrap n.int) i.1)), (0, .grow u8 [])]), fun i => 8 - i.1,
    ⟨0, by omega⟩, ⟨[(2, 1)], rfl, ⟨rfl, rfl, rfl, rfl, rfl, trivial⟩, ⟨rfl, rfl, trivial⟩⟩, ?_⟩
  intro i
  obtain ⟨i, hi⟩ := i
  have step : leB 0 (56 - 8 * (i : Int)) = true → i < 8 := fun h => by rw [leB_true] at h; omega
  have stop : leB 0 (56 - 8 * (i : Int)) = false → i = 8 := fun h => by
    have h1 : ¬ leB 0 (56 - 8 * (i : Int)) = true := by rw [h]; decide
    rw [leB_true] at h1; omega
  have hlen : (octL (IntKind.u64.wrap n.int) i).length = i := by rw [octL, List.length_map, List.length_range]
  have hw : IntKind.i64.wrap (56 - 8 * (i : Int) - 8) = 56 - 8 * ((i + 1 : Nat) : Int) := by rw [wrap_i64 (by omega) (by omega)]; omega
  refine ⟨fun h1 => ⟨?_, ?_, ?_⟩, fun h1 => ⟨⟨by decide, by decide⟩, bearsL_eq ?_⟩⟩
  · have := step h1
    show (0 : Int) ≤ 56 - 8 * (i : Int)
    omega
  · have := step h1
    show (octL (IntKind.u64.wrap n.int) i).length + 1 ≤ 1073741824
    omega
  · have h2 := step h1
    exact ⟨⟨i + 1, h2⟩, ⟨[(2, 4)], rfl, ⟨slot hw, rfl, rfl, rfl, rfl, trivial⟩, ⟨gro (octL_succ (IntKind.u64.wrap n.int) i), rfl, trivial⟩⟩, stepLt h2⟩
  · have h2 := stop h1
    show octL (IntKind.u64.wrap n.int) i = octL (IntKind.u64.wrap n.int) 8
    rw [h2]
def byL (e : D) : List D := octL (e.nth 0).int 8 ++ [.I (IntKind.u8.wrap (e.nth 1).int)] ++ octL (IntKind.u64.wrap (e.nth 2).int) 8
def byS (e : D) : ByteArray := if evC e ≠ 0 then ⟨#[]⟩ else strD (byL e)
def sBy : Sum := ⟨[eventS], fun _ => none, fun
  | [e] => .tup [.dat .str (.S (byS e)), .dat i64 (.I (evC e))]
  | _ => .und⟩
def cBy : Ctx := ⟨tabW, refsM, [(27, sEvC)], [], keep, (28 + 1000000, .osum sOct) :: (29 + 1000000, .osum sOctI) :: mpsM⟩
theorem by_fun : FunOK cBy 60 Try.f9 sBy := fun e he _ => by
  have hlen : ∀ n, (octL n 8).length = 8 := fun n => by rw [octL, List.length_map, List.length_range]
  refine ⟨fun h1 => ⟨Bears.same ?_, Bears.int rfl, trivial⟩, fun h1 => ⟨?_, by kernel_rfl, ?_, ?_, Bears.same ?_, Bears.int ?_, trivial⟩⟩
  · exact eqSame (congrArg D.S (if_pos (bneT h1)).symm)
  · show (octL (e.nth 0).int 8).length + 1 ≤ 1073741824
    rw [hlen]; decide
  · show (octL (e.nth 0).int 8 ++ [D.I (IntKind.u8.wrap (e.nth 1).int)]).length + (octL (IntKind.u64.wrap (e.nth 2).int) 8).length ≤ 1073741824
    rw [List.length_append, hlen, hlen]; show 8 + 1 + 8 ≤ 1073741824; decide
  · show (octL (e.nth 0).int 8 ++ [D.I (IntKind.u8.wrap (e.nth 1).int)] ++ octL (IntKind.u64.wrap (e.nth 2).int) 8).length ≤ 9223372036854775807
    rw [List.length_append, List.length_append, hlen, hlen]; show 8 + 1 + 8 ≤ 9223372036854775807; decide
  · exact eqSame (congrArg D.S (if_neg fun h => h (bneF h1)).symm)
  · exact (bneF h1).symm
theorem oct_ok : OutOK Try.prog 28 sOct := outOK_of_vc (c := c0W) (ctxW .nil) mixed Try.func28 rfl (by decide) @oct_fun
theorem octI_ok : OutOK Try.prog 29 sOctI := outOK_of_vc (c := c0W) (ctxW .nil) mixed Try.func29 rfl (by decide) @octI_fun
theorem cBy_ok : CtxOK Try.prog cBy := (CtxOK.withO (c := ⟨tabW, refsM, [(27, sEvC)], [], keep, (29 + 1000000, .osum sOctI) :: mpsM⟩) (CtxOK.withO (c := ⟨tabW, refsM, [(27, sEvC)], [], keep, mpsM⟩) (ctxW (.cons evC_ok .nil)) octI_ok) oct_ok)
theorem by_ok : SumOK Try.prog 9 sBy := sumOK_of_vc cBy_ok mixed Try.func9 rfl (by decide) @by_fun
def tabK : List (Nat × Sh) := (87, .slice eventS) :: tabW
theorem tabKOK : tabB Try.prog tabK = true := by kernel_rfl
theorem ctxK {l : List (Nat × Sum)} (h : SumsOK Try.prog l) : CtxOK Try.prog ⟨tabK, refsM, l, [], keep, mpsM⟩ := CtxOK.of tabKOK refsMOK h FunsOK.nil mpsMOK
def cKn : Ctx := ⟨tabK, refsM, [(11, sSh), (8, sE), (7, sPs), (9, sBy), (10, sIg), (12, sFd), (13, sRl), (14, sTkA), (15, sSe), (16, sMayA), (17, Cf.sSameI), (18, sTrueT)], [], keep, mpsM⟩
set_option maxHeartbeats 4000000 in
theorem known_fun : FunOK cKn 300 Try.f3 sTrueT := fun _ => by
  refine ⟨by kernel_rfl, by kernel_rfl, by kernel_rfl, by kernel_rfl, by kernel_rfl, by kernel_rfl, by kernel_rfl, by kernel_rfl, by kernel_rfl, by kernel_rfl, by kernel_rfl, fun h1 => ⟨by decide, by decide +kernel⟩, by kernel_rfl, Bears.bool (by kernel_rfl)⟩
theorem known_ok : SumOK Try.prog 3 sTrueT := sumOK_of_vc (c := cKn) (ctxK (.cons sh_sum (.cons e_sum (.cons ps_sum (.cons by_ok (.cons ig_sum (.cons fd_sum (.cons rl_sum (.cons tk_sum (.cons se_sum (.cons mayA_sum (.cons Cf.sameInts_ok (.cons awk_sum .nil))))))))))))) mixed Try.func3 rfl (by decide) @known_fun
end Go.Proofs.Ytpfpgjkbnjnjnaa
