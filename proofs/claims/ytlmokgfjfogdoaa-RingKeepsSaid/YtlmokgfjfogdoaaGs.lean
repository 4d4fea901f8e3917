/- Rings, in plain Lean: a round of the law's 'made'. -/
import Derived.Test.YtlmokgfjfogdoaaGr
namespace Go.Proofs.Ytlmokgfjfogdoaa
open Go Go.Vm
set_option linter.unusedSimpArgs false
set_option maxRecDepth 10000
def roundSt (s : St) (k : Int) : St :=
  if k % 3 = 0 then evSt s (s.now + k / 3 % 3)
  else if (cap s.r : Int) = (s.r.nth 1).int then ⟨s.r, s.all, s.ord + (1 + k / 3 % 4), s.now⟩
  else putSt s (s.ord + (1 + k / 3 % 4)) (k / 12 % 26) k
theorem round_inv {sz : Int} {i : Nat} {s : St} (I : InvSt sz i s) (hi : i < 40) {k : Int} : InvSt sz (i + 1) (roundSt s k) := by
  have h3 := I.ord0
  have h4 := I.now0
  unfold roundSt
  split
  · exact (ev_inv I hi (by omega) (by omega)).2
  · split
    · have h2 := I.len
      have h5 := I.last
      exact { ok := I.ok, lab := I.lab, siz := I.siz, nxt := I.nxt, len := by show s.all.length ≤ i + 1; omega, ev := I.ev,
              ord0 := by show 0 ≤ s.ord + (1 + k / 3 % 4) ∧ s.ord + (1 + k / 3 % 4) ≤ 4 * ((i + 1 : Nat) : Int); omega,
              now0 := by show 0 ≤ s.now ∧ s.now ≤ 2 * ((i + 1 : Nat) : Int); omega,
              last := ⟨Int.le_trans h5.1 (by show s.ord ≤ s.ord + (1 + k / 3 % 4); omega), h5.2⟩ }
    · rename_i hf
      exact (put_inv I hi hf (by omega) (by omega) (by omega) (by omega)).2
/-- The numbers that a round takes out of what is given. -/
def numK (nums : List D) (i : Nat) : Int := (nums.getD i .Z).int
end Go.Proofs.Ytlmokgfjfogdoaa
