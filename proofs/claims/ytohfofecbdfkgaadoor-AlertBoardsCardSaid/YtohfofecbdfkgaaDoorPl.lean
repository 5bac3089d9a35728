/-
  Plain definitions and facts for the layer 'alert': no program in sight. Numbers: ranges, primes, the greatest common divisor, powers.
-/
import Derived.Lib.ItoaNum
namespace Go.Proofs.YtohfofecbdfkgaaDoor
namespace Al

/-- n lies from lo to hi. -/
def inB (n lo hi : Int) : Bool := decide (lo ≤ n) && decide (n ≤ hi)
theorem inB_eq (n lo hi : Int) : inB n lo hi = (decide (lo ≤ n) && decide (n ≤ hi)) := rfl
theorem inB_true {n lo hi : Int} : inB n lo hi = true ↔ lo ≤ n ∧ n ≤ hi := by simp [inB]
theorem inB_false {n lo hi : Int} : inB n lo hi = false ↔ n < lo ∨ hi < n := by
  rw [← Bool.not_eq_true, inB_true]; omega
theorem inB_mk {n lo hi : Int} (h : lo ≤ n ∧ n ≤ hi) : inB n lo hi = true := inB_true.2 h

/-- Is a public key plausible? -/
def plaus (m e : Int) : Bool := inB m 15 1073741824 && inB e 3 32749
theorem plaus_true {m e : Int} : plaus m e = true ↔ (15 ≤ m ∧ m ≤ 1073741824) ∧ 3 ≤ e ∧ e ≤ 32749 := by
  simp [plaus, inB_true]

/-- No divisor of n from d on whose square is at most n (f: how many are asked). -/
def noDiv (n : Nat) : Nat → Nat → Bool
  | 0, _ => true
  | f + 1, d => if d * d ≤ n then (if n % d = 0 then false else noDiv n f (d + 1)) else true
/-- Is n a prime of keys? -/
def primeB (n : Int) : Bool := inB n 3 32749 && noDiv n.toNat n.toNat 2
theorem primeB_no {n : Int} (h : inB n 3 32749 = false) : primeB n = false := by unfold primeB; rw [h]; rfl
theorem primeB_yes {m : Nat} (h : inB (m : Int) 3 32749 = true) : noDiv m (m + 2 - 2) 2 = primeB m := by unfold primeB; rw [h]; rfl
theorem noDiv_step {n f d : Nat} (h : d * d ≤ n) (hn : n % d ≠ 0) : noDiv n (f + 1) d = noDiv n f (d + 1) := by
  rw [noDiv, if_pos h, if_neg hn]
theorem noDiv_hit {n f d : Nat} (h : d * d ≤ n) (hn : n % d = 0) : noDiv n (f + 1) d = false := by
  rw [noDiv, if_pos h, if_pos hn]
theorem noDiv_end {n f d : Nat} (h : n < d * d) : noDiv n f d = true := by
  cases f with
  | zero => rfl
  | succ f => rw [noDiv, if_neg (by omega)]
theorem sq_lt {d n : Nat} (h : d * d ≤ n) (h2 : 2 ≤ d) : d < n := by
  have : 2 * d ≤ d * d := Nat.mul_le_mul_right d h2
  omega
theorem sq_le (d : Nat) (h : d ≤ 32750) : d * d ≤ 1072562500 := by
  have := Nat.mul_le_mul h h
  omega

theorem sqI (d : Nat) : (d : Int) * d = ((d * d : Nat) : Int) := (Int.natCast_mul d d).symm
theorem sqI_le (d : Nat) (h : d ≤ 32750) : (d : Int) * d ≤ 1072562500 := by have := sq_le d h; rw [sqI]; omega
theorem sqI_nonneg (d : Nat) : 0 ≤ (d : Int) * d := by rw [sqI]; omega
theorem sqI_le_iff {d m : Nat} : (d : Int) * d ≤ m ↔ d * d ≤ m := by rw [sqI]; omega

/-- The greatest common divisor of two numbers that are not less than 0. -/
def gcdI (a b : Int) : Int := (Nat.gcd a.toNat b.toNat : Nat)
theorem gcdI_nat (a b : Nat) : gcdI a b = (Nat.gcd a b : Nat) := rfl
theorem gcdI_step {c d : Nat} : Nat.gcd d (c % d) = Nat.gcd c d := by rw [Nat.gcd_comm c d, Nat.gcd_rec d c, Nat.gcd_comm]

/-- The rest of a power. -/
def pw (n e m : Int) : Int := ((n.toNat ^ e.toNat % m.toNat : Nat) : Int)
theorem pw_nat (n e m : Nat) : pw n e m = (n ^ e % m : Nat) := rfl
theorem pw_start (n e m : Nat) : 1 % m * (n % m) ^ e % m = n ^ e % m := by
  rw [Nat.mul_mod, Nat.mod_mod, Nat.pow_mod, Nat.mod_mod, ← Nat.pow_mod, ← Nat.mul_mod, Nat.one_mul]
theorem pw_odd {x s k m : Nat} (h : k % 2 = 1) : x * s % m * (s * s % m) ^ (k / 2) % m = x * s ^ k % m := by
  have e : s ^ k = s * (s * s) ^ (k / 2) := by
    rw [← Nat.pow_two, ← Nat.pow_mul, ← Nat.pow_add_one']
    congr 1; omega
  rw [e, ← Nat.mul_assoc, Nat.mul_mod, Nat.mod_mod, Nat.pow_mod, Nat.mod_mod, ← Nat.pow_mod, ← Nat.mul_mod]
theorem pw_even {x s k m : Nat} (h : k % 2 = 0) : x * (s * s % m) ^ (k / 2) % m = x * s ^ k % m := by
  have e : s ^ k = (s * s) ^ (k / 2) := by
    rw [← Nat.pow_two, ← Nat.pow_mul]
    congr 1; omega
  rw [e, Nat.mul_mod, Nat.pow_mod, Nat.mod_mod, ← Nat.pow_mod, ← Nat.mul_mod]
theorem mul_bd {x s m : Nat} (hx : x < m) (hs : s < m) (hm : m ≤ 1073741824) : x * s ≤ 1152921504606846976 := by
  have := Nat.mul_le_mul (Nat.le_of_lt (Nat.lt_of_lt_of_le hx hm)) (Nat.le_of_lt (Nat.lt_of_lt_of_le hs hm))
  omega
theorem mulI_bd {x s m : Nat} (hx : x < m) (hs : s < m) (hm : m ≤ 1073741824) : (x : Int) * s ≤ 1152921504606846976 := by
  have := mul_bd hx hs hm
  rw [← Int.natCast_mul]; omega
theorem mulI_nn (x s : Nat) : 0 ≤ (x : Int) * s := by rw [← Int.natCast_mul]; omega
end Al
end Go.Proofs.YtohfofecbdfkgaaDoor
