/- Configurations, in plain Lean: what the functions give. -/
import Derived.Test.YtjcfnooplhoheaaWAa
import Derived.Test.YtjcfnooplhoheaaWKa
import Derived.Test.YtjcfnooplhoheaaProg
import Derived.KernelRfl
namespace Go.Proofs.Ytjcfnooplhoheaa
open Go Go.Vm
set_option linter.unusedSimpArgs false
set_option maxRecDepth 10000

abbrev u64 : Sh := .int .u64
abbrev i64 : Sh := .int .i64
abbrev classS : Sh := .struct [u64, i64, i64]
abbrev tenS : Sh := .struct [i64, i64, i64, i64, i64]
abbrev ruleS : Sh := .struct [i64, u64, u64, .bool, i64, i64, i64]
abbrev configS : Sh := .struct [.slice classS, .arr 6 tenS, .slice ruleS, u64]
abbrev ratesS : Sh := .struct [.slice i64]

def cls (c : D) : List D := (c.nth 0).list
def rls (c : D) : List D := (c.nth 2).list
def nC (c : D) : Nat := (cls c).length
def nR (c : D) : Nat := (rls c).length
def clsAt (c : D) (i : Nat) : D := (cls c).getD i .Z
def rlsAt (c : D) (i : Nat) : D := (rls c).getD i .Z
def labAt (c : D) (i : Nat) : Int := ((clsAt c i).nth 0).int
def sizeAt (c : D) (i : Nat) : Int := ((clsAt c i).nth 1).int
def rateAt (c : D) (i : Nat) : Int := ((clsAt c i).nth 2).int
def out (n a b : Int) : Bool := ltB n a || ltB b n
def clBad (x : D) : Bool := out (x.nth 1).int 1 64 || out (x.nth 2).int 0 64
def labL (l : List D) (i : Nat) : Int := ((l.getD i .Z).nth 0).int
def dupL (l : List D) (i : Nat) : Bool := (List.range i).any fun k => labL l k == labL l i
def clEL (l : List D) (i : Nat) : Int := if clBad (l.getD i .Z) = true then 2 else if dupL l i = true then 8 else 0
def clE (c : D) (i : Nat) : Int := clEL (cls c) i
def tnBad (t : D) : Bool := out (t.nth 0).int 1 64 || out (t.nth 1).int 0 4 || out (t.nth 2).int 0 64 || out (t.nth 3).int 0 64 || out (t.nth 4).int 0 64
def tnE (c : D) (i : Nat) : Int := if tnBad ((c.nth 1).nth i) = true then 2 else 0
def belowB (a b : Int) : Bool := bitsOp .andNot .u64 a b == 0
def badOwner (r : D) : Bool := ltB (r.nth 0).int 1 || ltB 6 (r.nth 0).int || ltB (r.nth 4).int 0 || ltB 25 (r.nth 4).int || ((r.nth 3).bool && (r.nth 4).int != 0)
def ruF (r : D) : Int := if badOwner r = true then 2 else if belowB (r.nth 2).int (r.nth 1).int = false then 13 else if (r.nth 5).int > (r.nth 6).int then 9 else 0
def ruE (c : D) (i : Nat) : Int := ruF (rlsAt c i)
/-- The first place, of m from i on, at which f is not 0; the place behind them if there is none. -/
def fi (f : Nat → Int) : Nat → Nat → Nat
  | 0, i => i
  | m + 1, i => if f i ≠ 0 then i else fi f m (i + 1)
theorem fi_le {f : Nat → Int} : ∀ {m i : Nat}, i ≤ fi f m i ∧ fi f m i ≤ i + m
  | 0, i => by simp [fi]
  | m + 1, i => by
    have := fi_le (f := f) (m := m) (i := i + 1)
    simp only [fi]; split <;> omega
theorem fi_at {f : Nat → Int} : ∀ {m i n : Nat}, n < m → (∀ k, k < n → f (i + k) = 0) → f (i + n) ≠ 0 → fi f m i = i + n
  | 0, _, _, h, _, _ => by omega
  | m + 1, i, 0, _, _, h => by simp only [Nat.add_zero] at h; simp [fi, h]
  | m + 1, i, n + 1, hn, h0, h => by
    have h1 := h0 0 (by omega)
    simp only [Nat.add_zero] at h1
    have := fi_at (f := f) (m := m) (i := i + 1) (n := n) (by omega) (fun k hk => by have := h0 (k + 1) (by omega); rw [show i + (k + 1) = i + 1 + k by omega] at this; exact this) (by rw [show i + (n + 1) = i + 1 + n by omega] at h; exact h)
    simp only [fi, h1, ne_eq, not_true, if_false, this]; omega
theorem fi_end {f : Nat → Int} : ∀ {m i : Nat}, (∀ k, k < m → f (i + k) = 0) → fi f m i = i + m
  | 0, i, _ => rfl
  | m + 1, i, h => by
    have h1 := h 0 (by omega)
    simp only [Nat.add_zero] at h1
    have := fi_end (f := f) (m := m) (i := i + 1) fun k hk => by have := h (k + 1) (by omega); rw [show i + (k + 1) = i + 1 + k by omega] at this; exact this
    simp only [fi, h1, ne_eq, not_true, if_false, this]; omega
theorem fi_0 {f : Nat → Int} {m : Nat} {n : Nat} (h : n < m) (h0 : ∀ k, k < n → f k = 0) (hn : f n ≠ 0) : fi f m 0 = n := by
  rw [fi_at (i := 0) h (fun k hk => by rw [Nat.zero_add]; exact h0 k hk) (by rw [Nat.zero_add]; exact hn), Nat.zero_add]
theorem fi_all {f : Nat → Int} {m : Nat} (h0 : ∀ k, k < m → f k = 0) : fi f m 0 = m := by
  rw [fi_end (i := 0) fun k hk => by rw [Nat.zero_add]; exact h0 k hk, Nat.zero_add]
theorem fi_spec {f : Nat → Int} : ∀ {m i : Nat}, (∀ k, i ≤ k → k < fi f m i → f k = 0) ∧ (fi f m i < i + m → f (fi f m i) ≠ 0)
  | 0, i => by simp [fi]; intro k h1 h2; omega
  | m + 1, i => by
    have ih := fi_spec (f := f) (m := m) (i := i + 1)
    simp only [fi]
    by_cases h : f i = 0
    · simp only [h, ne_eq, not_true, if_false]
      refine ⟨fun k h1 h2 => ?_, fun h1 => ih.2 (by omega)⟩
      rcases Nat.eq_or_lt_of_le h1 with rfl | h3
      · exact h
      · exact ih.1 k h3 h2
    · simp only [h, ne_eq, not_false_iff, if_true]
      exact ⟨fun k h1 h2 => by omega, fun _ => by first | exact h | trivial⟩
def fullB (c : D) : Bool := ltB 8 (nC c : Int) || ltB 8 (nR c : Int)
def horBad (c : D) : Bool := out (c.nth 3).int 1 10000
/-- The error of a configuration, and its number. -/
def chE (c : D) : Int := if fullB c = true then 6
  else if fi (clE c) (nC c) 0 < nC c then clE c (fi (clE c) (nC c) 0)
  else if fi (tnE c) 6 0 < 6 then tnE c (fi (tnE c) 6 0)
  else if fi (ruE c) (nR c) 0 < nR c then ruE c (fi (ruE c) (nR c) 0)
  else if horBad c = true then 2 else 0
def chA (c : D) : Int := if fullB c = true then 0
  else if fi (clE c) (nC c) 0 < nC c then (fi (clE c) (nC c) 0 : Nat)
  else if fi (tnE c) 6 0 < 6 then (fi (tnE c) 6 0 : Nat)
  else if fi (ruE c) (nR c) 0 < nR c then (fi (ruE c) (nR c) 0 : Nat)
  else 0
def sCheckC : Sum := ⟨[configS], fun _ => none, fun
  | [c] => .tup [.dat i64 (.I (chE c)), .dat i64 (.I (chA c))]
  | _ => .und⟩
/-- Where the checks of classes, tenants and rules stand: at a place with an error. -/
theorem ch_cls {c : D} (hf : fullB c = false) {i : Nat} (hi : i < nC c) (h0 : ∀ k, k < i → clE c k = 0) (h : clE c i ≠ 0) : chE c = clE c i ∧ chA c = i := by
  have e := fi_0 hi h0 h
  simp only [chE, chA, hf, Bool.false_eq_true, if_false, e, if_pos hi, and_self]
theorem ch_ten {c : D} (hf : fullB c = false) (hc : ∀ k, k < nC c → clE c k = 0) {i : Nat} (hi : i < 6) (h0 : ∀ k, k < i → tnE c k = 0) (h : tnE c i ≠ 0) : chE c = tnE c i ∧ chA c = i := by
  have e := fi_0 hi h0 h
  have e1 := fi_all hc
  simp only [chE, chA, hf, Bool.false_eq_true, if_false, e, e1, Nat.lt_irrefl, if_pos hi, and_self]
theorem ch_rul {c : D} (hf : fullB c = false) (hc : ∀ k, k < nC c → clE c k = 0) (ht : ∀ k, k < 6 → tnE c k = 0) {i : Nat} (hi : i < nR c) (h0 : ∀ k, k < i → ruE c k = 0) (h : ruE c i ≠ 0) : chE c = ruE c i ∧ chA c = i := by
  have e := fi_0 hi h0 h
  have e1 := fi_all hc
  have e2 := fi_all ht
  simp only [chE, chA, hf, Bool.false_eq_true, if_false, e, e1, e2, Nat.lt_irrefl, if_pos hi, and_self]
theorem ch_hor {c : D} (hf : fullB c = false) (hc : ∀ k, k < nC c → clE c k = 0) (ht : ∀ k, k < 6 → tnE c k = 0) (hr : ∀ k, k < nR c → ruE c k = 0) : chE c = (if horBad c = true then 2 else 0) ∧ chA c = 0 := by
  have e := fi_all hr
  have e1 := fi_all hc
  have e2 := fi_all ht
  simp only [chE, chA, hf, Bool.false_eq_true, if_false, e, e1, e2, Nat.lt_irrefl, and_self]
theorem ch_full {c : D} (hf : fullB c = true) : chE c = 6 ∧ chA c = 0 := by simp [chE, chA, hf]
/-- What it is to be right. -/
theorem ch_ok {c : D} : chE c = 0 ↔ fullB c = false ∧ (∀ k, k < nC c → clE c k = 0) ∧ (∀ k, k < 6 → tnE c k = 0) ∧ (∀ k, k < nR c → ruE c k = 0) ∧ horBad c = false := by
  constructor
  · intro h
    have s1 := fi_spec (f := clE c) (m := nC c) (i := 0)
    have s2 := fi_spec (f := tnE c) (m := 6) (i := 0)
    have s3 := fi_spec (f := ruE c) (m := nR c) (i := 0)
    have l1 := fi_le (f := clE c) (m := nC c) (i := 0)
    have l2 := fi_le (f := tnE c) (m := 6) (i := 0)
    have l3 := fi_le (f := ruE c) (m := nR c) (i := 0)
    simp only [chE] at h
    split at h
    · omega
    · rename_i hf
      split at h
      · rename_i h1; exact absurd h (s1.2 (by omega))
      · rename_i h1
        split at h
        · rename_i h2; exact absurd h (s2.2 (by omega))
        · rename_i h2
          split at h
          · rename_i h3; exact absurd h (s3.2 (by omega))
          · rename_i h3
            split at h
            · omega
            · rename_i h4
              exact ⟨by simpa using hf, fun k hk => s1.1 k (by omega) (by omega), fun k hk => s2.1 k (by omega) (by omega), fun k hk => s3.1 k (by omega) (by omega), by simpa using h4⟩
  · rintro ⟨h1, h2, h3, h4, h5⟩
    rw [(ch_hor h1 h2 h3 h4).1, h5]; rfl
end Go.Proofs.Ytjcfnooplhoheaa
