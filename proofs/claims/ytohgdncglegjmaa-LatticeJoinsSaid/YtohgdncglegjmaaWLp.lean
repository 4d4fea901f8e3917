/- Counting bits, in plain Lean. -/
import Derived.Test.YtohgdncglegjmaaWAa
namespace Go.Proofs.Ytohgdncglegjmaa
def pc : Nat → Nat → Nat
  | 0, _ => 0
  | k + 1, x => x % 2 + pc k (x / 2)
def rep (m : Nat) : Nat → Nat
  | 0 => 0
  | k + 1 => rep m k * 256 + m
def mapG (g : Nat → Nat) : Nat → Nat → Nat
  | 0, _ => 0
  | k + 1, x => mapG g k (x / 256) * 256 + g (x % 256)
theorem and_rep {p q m : Nat} (hpq : p * q = 256) (hq : ∃ i, q = 2 ^ i) (hm : m < q) (k x : Nat) : ((x / p) &&& rep m (k + 1)) = ((x / 256 / p) &&& rep m k) * 256 + ((x % 256 / p) &&& m) := by
  obtain ⟨i, rfl⟩ := hq
  have hp : 0 < p := Nat.pos_of_ne_zero fun h => by rw [h] at hpq; omega
  have h256 : m < 256 := Nat.lt_of_lt_of_le hm (by rw [← hpq]; exact Nat.le_mul_of_pos_left _ hp)
  have h1 : ((x / p) &&& rep m (k + 1)) / 256 = (x / 256 / p) &&& rep m k := by
    rw [show 256 = 2 ^ 8 from rfl, Nat.and_div_two_pow, Nat.div_div_eq_div_mul, Nat.div_div_eq_div_mul, Nat.mul_comm p]
    congr 1
    rw [rep]; omega
  have h2 : ((x / p) &&& rep m (k + 1)) % 256 = (x % 256 / p) &&& m := by
    have e1 : ((x / p) &&& rep m (k + 1)) % 2 ^ 8 = ((x / p) % 2 ^ 8) &&& m := by
      rw [Nat.and_mod_two_pow]
      congr 1
      rw [rep]; omega
    have e2 : ∀ y : Nat, y &&& m = (y % 2 ^ i) &&& m := fun y => by
      have : y &&& m < 2 ^ i := Nat.lt_of_le_of_lt Nat.and_le_right hm
      have h := Nat.and_mod_two_pow (a := y) (b := m) (n := i)
      rw [Nat.mod_eq_of_lt this, Nat.mod_eq_of_lt hm] at h
      exact h
    rw [show (256 : Nat) = 2 ^ 8 from rfl, e1, e2, e2 (x % 2 ^ 8 / p)]
    congr 1
    rw [show (2 : Nat) ^ 8 = p * 2 ^ i from hpq.symm, Nat.mod_mul_right_div_self, Nat.mod_mod_of_dvd _ ⟨p, by rw [Nat.mul_comm]⟩, Nat.mod_mod]
  rw [← h1, ← h2]
  omega
theorem step12 {p q m : Nat} (hpq : p * q = 256) (hq : ∃ i, q = 2 ^ i) (hm : m < q) : ∀ k x, ((x / p) &&& rep m k) + (x &&& rep m k) = mapG (fun b => ((b / p) &&& m) + (b &&& m)) k x
  | 0, x => by simp [rep, mapG]
  | k + 1, x => by
    have hp : 0 < p := Nat.pos_of_ne_zero fun h => by rw [h] at hpq; omega
    have h1 := and_rep hpq hq hm k x
    have h2 := and_rep (p := 1) (q := 256) (m := m) rfl ⟨8, rfl⟩ (Nat.lt_of_lt_of_le hm (by rw [← hpq]; exact Nat.le_mul_of_pos_left _ hp)) k x
    rw [Nat.div_one, Nat.div_one, Nat.div_one] at h2
    rw [h1, h2, mapG, ← step12 hpq hq hm k (x / 256)]
    omega
theorem mapG_map {f g : Nat → Nat} (hf : ∀ b, b < 256 → f b < 256) : ∀ k x, mapG g k (mapG f k x) = mapG (fun b => g (f b)) k x
  | 0, x => rfl
  | k + 1, x => by
    have hb := hf (x % 256) (Nat.mod_lt _ (by omega))
    have e1 : mapG f (k + 1) x / 256 = mapG f k (x / 256) := by rw [mapG]; omega
    have e2 : mapG f (k + 1) x % 256 = f (x % 256) := by rw [mapG]; omega
    rw [mapG, e1, e2, mapG_map hf k (x / 256)]
    rfl
theorem step3 {f : Nat → Nat} (hf : ∀ b, b < 256 → f b / 16 ≤ 4 ∧ f b % 16 ≤ 4) : ∀ k x, ((mapG f k x / 16 + mapG f k x) &&& rep 15 k) = mapG (fun b => f b / 16 + f b % 16) k x
  | 0, x => by simp [rep, mapG]
  | k + 1, x => by
    have hb := hf (x % 256) (Nat.mod_lt _ (by omega))
    have ih := step3 hf k (x / 256)
    have hn : mapG f k (x / 256) % 16 ≤ 4 := by
      cases k with
      | zero => simp [mapG]
      | succ k => have := hf (x / 256 % 256) (Nat.mod_lt _ (by omega)); rw [mapG]; omega
    have h := and_rep (p := 1) (q := 256) (m := 15) rfl ⟨8, rfl⟩ (by omega) k (mapG f (k + 1) x / 16 + mapG f (k + 1) x)
    rw [Nat.div_one, Nat.div_one, Nat.div_one] at h
    rw [h]
    obtain ⟨z, hz⟩ : ∃ z, z = mapG f k (x / 256) := ⟨_, rfl⟩
    obtain ⟨c, hc⟩ : ∃ c, c = f (x % 256) := ⟨_, rfl⟩
    have e0 : mapG f (k + 1) x = z * 256 + c := by rw [hz, hc, mapG]
    rw [← hz] at ih hn
    rw [← hc] at hb
    have e1 : (mapG f (k + 1) x / 16 + mapG f (k + 1) x) / 256 = z / 16 + z := by rw [e0]; omega
    have e2 : (mapG f (k + 1) x / 16 + mapG f (k + 1) x) % 256 % 16 = c / 16 + c % 16 := by rw [e0]; omega
    have e3 : (mapG f (k + 1) x / 16 + mapG f (k + 1) x) % 256 &&& 15 = c / 16 + c % 16 := by
      rw [show (15 : Nat) = 2 ^ 4 - 1 from rfl, Nat.and_two_pow_sub_one_eq_mod, e2]
    rw [e1, ih, e3, hc]
    rfl
def g1 (b : Nat) : Nat := ((b / 2) &&& 85) + (b &&& 85)
def g2 (b : Nat) : Nat := ((b / 4) &&& 51) + (b &&& 51)
def g3 (b : Nat) : Nat := b / 16 + b % 16
theorem all_lt {p : Nat → Bool} {n : Nat} (h : (List.range n).all p = true) (b : Nat) (hb : b < n) : p b = true := List.all_eq_true.1 h b (List.mem_range.2 hb)
theorem bytes_ok : (List.range 256).all (fun b => decide (g1 b < 256 ∧ g2 (g1 b) / 16 ≤ 4 ∧ g2 (g1 b) % 16 ≤ 4 ∧ g3 (g2 (g1 b)) = pc 8 b ∧ pc 8 b ≤ 8)) = true := by decide +kernel
/-- The steps of the library's count. -/
def w1 (x : Nat) : Nat := ((x / 2) &&& 6148914691236517205) + (x &&& 6148914691236517205)
def w2 (x : Nat) : Nat := ((x / 4) &&& 3689348814741910323) + (x &&& 3689348814741910323)
def w3 (x : Nat) : Nat := (x / 16 + x) &&& 1085102592571150095
def w4 (x : Nat) : Nat := x + x / 256
def w5 (x : Nat) : Nat := x + x / 65536
def w6 (x : Nat) : Nat := x + x / 4294967296
def swar (x : Nat) : Nat := w6 (w5 (w4 (w3 (w2 (w1 x))))) % 128
theorem pc_add : ∀ j k x, pc (j + k) x = pc j x + pc k (x / 2 ^ j)
  | 0, k, x => by simp [pc]
  | j + 1, k, x => by
    rw [show j + 1 + k = (j + k) + 1 by omega, pc, pc, pc_add j k, Nat.div_div_eq_div_mul, Nat.pow_succ, Nat.mul_comm 2]
    omega
theorem pc8_mod (x : Nat) : pc 8 (x % 256) = pc 8 x := by
  simp only [pc]; omega
theorem pc_byte (k x : Nat) : pc (k + 8) x = pc 8 (x % 256) + pc k (x / 256) := by
  rw [Nat.add_comm k 8, pc_add, pc8_mod]
theorem low4 {A0 A1 A2 A3 A4 e0 e1 e2 e3 : Nat} (h0 : A0 = A1 * 256 + e0) (h1 : A1 = A2 * 256 + e1) (h2 : A2 = A3 * 256 + e2) (h3 : A3 = A4 * 256 + e3) (k0 : e0 ≤ 8) (k1 : e1 ≤ 8) (k2 : e2 ≤ 8) (k3 : e3 ≤ 8) :
    ∃ r, A0 = A4 * 4294967296 + r ∧ r ≤ 134744072 := ⟨e3 * 16777216 + (e2 * 65536 + (e1 * 256 + e0)), by subst h2 h1 h0; rw [h3]; simp only [Nat.add_mul, Nat.mul_assoc, Nat.reduceMul]; omega, by clear h0 h1 h2 h3; omega⟩
theorem low2 {A0 A1 A2 e0 e1 : Nat} (h0 : A0 = A1 * 256 + e0) (h1 : A1 = A2 * 256 + e1) (k0 : e0 ≤ 8) (k1 : e1 ≤ 8) :
    ∃ r, A0 = A2 * 65536 + r ∧ r ≤ 2056 := ⟨e1 * 256 + e0, by rw [h0, h1]; clear h0 h1; omega, by clear h0 h1; omega⟩
theorem by128 {A B e : Nat} (h : A = B * 256 + e) (_ : e ≤ 8) : ∃ q, A = q * 128 + e := ⟨B * 2, by omega⟩
theorem sum8 {A0 A1 A2 A3 A4 A5 A6 A7 A8 e0 e1 e2 e3 e4 e5 e6 e7 : Nat} (k0 : e0 ≤ 8) (k1 : e1 ≤ 8) (k2 : e2 ≤ 8) (k3 : e3 ≤ 8) (k4 : e4 ≤ 8) (k5 : e5 ≤ 8) (k6 : e6 ≤ 8) (k7 : e7 ≤ 8)
    (h0 : A0 = A1 * 256 + e0) (h1 : A1 = A2 * 256 + e1) (h2 : A2 = A3 * 256 + e2) (h3 : A3 = A4 * 256 + e3) (h4 : A4 = A5 * 256 + e4) (h5 : A5 = A6 * 256 + e5) (h6 : A6 = A7 * 256 + e6) (h7 : A7 = A8 * 256 + e7)
    {b c d : Nat} (hb : b = A0 + A0 / 256) (hc : c = b + b / 65536) (hd : d = c + c / 4294967296) :
    d % 128 = e0 + (e1 + (e2 + (e3 + (e4 + (e5 + (e6 + (e7 + 0))))))) := by
  have f0 : A0 / 256 = A1 := by clear hc hd hb h1 h2 h3 h4 h5 h6 h7; omega
  have f1 : b / 65536 = A2 + A3 := by
    obtain ⟨r, e, l⟩ := low2 h0 h1 k0 k1
    obtain ⟨r', e', l'⟩ := low2 h1 h2 k1 k2
    rw [hb, f0, e, e']; clear hc hd hb h0 h1 h2 h3 h4 h5 h6 h7 f0 e e'; omega
  have f2 : c / 4294967296 = A4 + A5 + A6 + A7 := by
    obtain ⟨r, e, l⟩ := low4 h0 h1 h2 h3 k0 k1 k2 k3
    obtain ⟨r1, e1', l1⟩ := low4 h1 h2 h3 h4 k1 k2 k3 k4
    obtain ⟨r2, e2', l2⟩ := low4 h2 h3 h4 h5 k2 k3 k4 k5
    obtain ⟨r3, e3', l3⟩ := low4 h3 h4 h5 h6 k3 k4 k5 k6
    have q : c = (A4 + A5 + A6 + A7) * 4294967296 + (r + r1 + r2 + r3) := by
      rw [hc, f1, hb, f0, e, e1', e2', e3']; clear hc hd hb h0 h1 h2 h3 h4 h5 h6 h7 f0 f1 e e1' e2' e3'; simp only [Nat.add_mul]; ac_rfl
    have lt : r + r1 + r2 + r3 < 4294967296 := by clear q hc hd hb h0 h1 h2 h3 h4 h5 h6 h7 f0 f1 e e1' e2' e3'; omega
    rw [q, Nat.add_comm, Nat.add_mul_div_right _ _ (by decide), Nat.div_eq_of_lt lt, Nat.zero_add]
  have f3 : d = A0 + A1 + A2 + A3 + A4 + A5 + A6 + A7 := by rw [hd, f2, hc, f1, hb, f0]; simp only [Nat.add_assoc]
  obtain ⟨q0, g0⟩ := by128 h0 k0
  obtain ⟨q1, g1⟩ := by128 h1 k1
  obtain ⟨q2, g2⟩ := by128 h2 k2
  obtain ⟨q3, g3⟩ := by128 h3 k3
  obtain ⟨q4, g4⟩ := by128 h4 k4
  obtain ⟨q5, g5⟩ := by128 h5 k5
  obtain ⟨q6, g6⟩ := by128 h6 k6
  obtain ⟨q7, g7⟩ := by128 h7 k7
  have f4 : d = (q0 + q1 + q2 + q3 + q4 + q5 + q6 + q7) * 128 + (e0 + e1 + e2 + e3 + e4 + e5 + e6 + e7) := by rw [f3, g0, g1, g2, g3, g4, g5, g6, g7]; clear hc hd hb h0 h1 h2 h3 h4 h5 h6 h7 f0 f1 f2 f3 g0 g1 g2 g3 g4 g5 g6 g7 k0 k1 k2 k3 k4 k5 k6 k7; simp only [Nat.add_mul]; ac_rfl
  obtain ⟨q, hq⟩ : ∃ q, q = q0 + q1 + q2 + q3 + q4 + q5 + q6 + q7 := ⟨_, rfl⟩
  rw [f4, ← hq]
  clear hc hd hb h0 h1 h2 h3 h4 h5 h6 h7 f0 f1 f2 f3 f4 g0 g1 g2 g3 g4 g5 g6 g7 hq
  omega
theorem rep85 : rep 85 8 = 6148914691236517205 := by decide +kernel
theorem rep51 : rep 51 8 = 3689348814741910323 := by decide +kernel
theorem rep15 : rep 15 8 = 1085102592571150095 := by decide +kernel
theorem by_ok (b : Nat) (hb : b < 256) : g1 b < 256 ∧ g2 (g1 b) / 16 ≤ 4 ∧ g2 (g1 b) % 16 ≤ 4 ∧ g3 (g2 (g1 b)) = pc 8 b ∧ pc 8 b ≤ 8 := by
  have h := all_lt bytes_ok b hb
  simp only [decide_eq_true_eq] at h
  exact h
def gg (b : Nat) : Nat := g3 (g2 (g1 b))
theorem gg_st (k y : Nat) : mapG gg (k + 1) y = mapG gg k (y / 256) * 256 + pc 8 (y % 256) := by
  rw [mapG, gg, (by_ok (y % 256) (Nat.mod_lt _ (by omega))).2.2.2.1]
theorem gg_le (y : Nat) : pc 8 (y % 256) ≤ 8 := (by_ok (y % 256) (Nat.mod_lt _ (by omega))).2.2.2.2
theorem w123 (x : Nat) : w3 (w2 (w1 x)) = mapG gg 8 x := by
  have s1 : w1 x = mapG g1 8 x := by
    rw [w1, ← rep85]; exact step12 (p := 2) (q := 128) (m := 85) rfl ⟨7, rfl⟩ (by omega) 8 x
  have s2 : ∀ y, w2 y = mapG g2 8 y := fun y => by
    rw [w2, ← rep51]; exact step12 (p := 4) (q := 64) (m := 51) rfl ⟨6, rfl⟩ (by omega) 8 y
  rw [s1, s2, mapG_map (fun b h => (by_ok b h).1), w3, ← rep15]
  exact step3 (f := fun b => g2 (g1 b)) (fun b h => ⟨(by_ok b h).2.1, (by_ok b h).2.2.1⟩) 8 x
theorem sumP {A0 A1 A2 A3 A4 A5 A6 A7 A8 : Nat} {e : Nat → Nat} (k : ∀ i, e i ≤ 8)
    (h0 : A0 = A1 * 256 + e 0) (h1 : A1 = A2 * 256 + e 1) (h2 : A2 = A3 * 256 + e 2) (h3 : A3 = A4 * 256 + e 3) (h4 : A4 = A5 * 256 + e 4) (h5 : A5 = A6 * 256 + e 5) (h6 : A6 = A7 * 256 + e 6) (h7 : A7 = A8 * 256 + e 7) :
    w6 (w5 (w4 A0)) % 128 = e 0 + (e 1 + (e 2 + (e 3 + (e 4 + (e 5 + (e 6 + (e 7 + 0))))))) :=
  sum8 (k 0) (k 1) (k 2) (k 3) (k 4) (k 5) (k 6) (k 7) h0 h1 h2 h3 h4 h5 h6 h7 (b := w4 A0) (c := w5 (w4 A0)) (by rw [w4]) (by rw [w5]) (by rw [w6])
/-- A number without its last bytes. -/
def dn : Nat → Nat → Nat
  | 0, x => x
  | i + 1, x => dn i x / 256
theorem swar_eq (x : Nat) : swar x = pc 64 x := by
  have h := sumP (e := fun i => pc 8 (dn i x % 256)) (fun i => gg_le _) (gg_st 7 (dn 0 x)) (gg_st 6 (dn 1 x)) (gg_st 5 (dn 2 x)) (gg_st 4 (dn 3 x)) (gg_st 3 (dn 4 x)) (gg_st 2 (dn 5 x)) (gg_st 1 (dn 6 x)) (gg_st 0 (dn 7 x))
  have p : ∀ k i, pc (k + 8) (dn i x) = pc 8 (dn i x % 256) + pc k (dn (i + 1) x) := fun k i => pc_byte k _
  have p0 : pc 64 (dn 0 x) = pc 8 (dn 0 x % 256) + pc 56 (dn 1 x) := p 56 0
  have p1 : pc 56 (dn 1 x) = pc 8 (dn 1 x % 256) + pc 48 (dn 2 x) := p 48 1
  have p2 : pc 48 (dn 2 x) = pc 8 (dn 2 x % 256) + pc 40 (dn 3 x) := p 40 2
  have p3 : pc 40 (dn 3 x) = pc 8 (dn 3 x % 256) + pc 32 (dn 4 x) := p 32 3
  have p4 : pc 32 (dn 4 x) = pc 8 (dn 4 x % 256) + pc 24 (dn 5 x) := p 24 4
  have p5 : pc 24 (dn 5 x) = pc 8 (dn 5 x % 256) + pc 16 (dn 6 x) := p 16 5
  have p6 : pc 16 (dn 6 x) = pc 8 (dn 6 x % 256) + pc 8 (dn 7 x) := p 8 6
  have p7 : pc 8 (dn 7 x) = pc 8 (dn 7 x % 256) + pc 0 (dn 8 x) := p 0 7
  rw [swar, w123]
  refine h.trans ?_
  show _ = pc 64 (dn 0 x)
  rw [p0, p1, p2, p3, p4, p5, p6, p7]
  rfl
theorem pc_le : ∀ k a b, a &&& b = a → pc k a ≤ pc k b ∧ (pc k a = pc k b → a % 2 ^ k = b % 2 ^ k)
  | 0, a, b, _ => by simp [pc, Nat.mod_one]
  | k + 1, a, b, h => by
    have h1 : a / 2 &&& b / 2 = a / 2 := by
      have := congrArg (fun y => y / 2 ^ 1) h
      simp only [Nat.and_div_two_pow] at this
      simpa using this
    have h2 : (a % 2) &&& (b % 2) = a % 2 := by
      have := congrArg (fun y => y % 2 ^ 1) h
      simp only [Nat.and_mod_two_pow] at this
      simpa using this
    have h3 : a % 2 ≤ b % 2 := by rw [← h2]; exact Nat.and_le_right
    obtain ⟨i1, i2⟩ := pc_le k (a / 2) (b / 2) h1
    simp only [pc]
    refine ⟨by omega, fun e => ?_⟩
    have i3 := i2 (by omega)
    have h4 : a % 2 = b % 2 := by omega
    rw [Nat.pow_succ, Nat.mul_comm, Nat.mod_mul, Nat.mod_mul, i3, h4]
theorem pc_bound : ∀ k a, pc k a ≤ k
  | 0, _ => Nat.le_refl _
  | k + 1, a => by have := pc_bound k (a / 2); have := Nat.mod_lt a (show 0 < 2 by omega); rw [pc]; omega
end Go.Proofs.Ytohgdncglegjmaa
