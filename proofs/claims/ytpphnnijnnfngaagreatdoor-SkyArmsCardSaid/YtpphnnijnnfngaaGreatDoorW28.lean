/-
  Rings: the program's comparison of a difference with a number and the specification's are one (plain).
-/
import Derived.WalkKit
namespace Go.Proofs.YtpphnnijnnfngaaGreatDoor
namespace Ring9

/-- A square with its sign. -/
def ssq (x : Int) : Int := if x < 0 then -(x * x) else x * x
def clampB (b m : Int) : Int := min (max m (-b)) b
/-- The specification's comparison. -/
def rootedS (k m x : Int) : Int := if ssq k * m < ssq x then -1 else if ssq x < ssq k * m then 1 else 0
theorem sq_nn (x : Int) : 0 ≤ x * x := by
  rcases Int.le_total 0 x with h | h
  · exact Int.mul_nonneg h h
  · exact Int.mul_nonneg_of_nonpos_of_nonpos h h
theorem ssq_in (x : Int) : -(x * x) ≤ ssq x ∧ ssq x ≤ x * x := by
  have := sq_nn x
  unfold ssq
  split <;> omega
theorem sq_le {a b : Int} (ha : 0 ≤ a) (h : a ≤ b) : a * a ≤ b * b := Int.mul_le_mul h h ha (by omega)
theorem ssq_neg (x : Int) : ssq (-x) = -ssq x := by
  unfold ssq
  have e : -x * -x = x * x := Int.neg_mul_neg _ _
  rw [e]
  by_cases h0 : x = 0
  · subst h0; rfl
  · split <;> split <;> omega
/-- The clamps agree where the difference is less than the smaller one, times the root. -/
theorem clamp_same {k d m b B : Int} (hd : 1 ≤ d) (hb : 0 ≤ b) (hB : b ≤ B) (hk : k * k < b * b * d) : (ssq (clampB b m) * d ≤ ssq k ↔ ssq (clampB B m) * d ≤ ssq k) ∧ (ssq k ≤ ssq (clampB b m) * d ↔ ssq k ≤ ssq (clampB B m) * d) := by
  obtain ⟨k1, k2⟩ := ssq_in k
  by_cases h1 : b < m
  · have e1 : clampB b m = b := by unfold clampB; omega
    have e2 : b ≤ clampB B m := by unfold clampB; omega
    have s1 : ssq b = b * b := by unfold ssq; rw [if_neg (by omega)]
    have s2 : b * b ≤ ssq (clampB B m) := by
      unfold ssq
      rw [if_neg (by omega)]
      exact sq_le hb e2
    have s3 : b * b * d ≤ ssq (clampB B m) * d := Int.mul_le_mul_of_nonneg_right s2 (by omega)
    rw [e1, s1]
    constructor <;> constructor <;> intro _ <;> omega
  · by_cases h2 : m < -b
    · have e1 : clampB b m = -b := by unfold clampB; omega
      have e2 : clampB B m ≤ -b := by unfold clampB; omega
      have s1 : ssq (-b) = -(b * b) := by rw [ssq_neg]; unfold ssq; rw [if_neg (by omega)]
      have s2 : ssq (clampB B m) ≤ -(b * b) := by
        have h := sq_le hb (show b ≤ -clampB B m by omega)
        have e3 : ssq (clampB B m) = -ssq (-clampB B m) := by rw [ssq_neg, Int.neg_neg]
        rw [e3]
        have e4 : ssq (-clampB B m) = -clampB B m * -clampB B m := by unfold ssq; rw [if_neg (by omega)]
        rw [e4]
        omega
      have s3 : ssq (clampB B m) * d ≤ -(b * b) * d := Int.mul_le_mul_of_nonneg_right s2 (by omega)
      have s4 : -(b * b) * d = -(b * b * d) := Int.neg_mul _ _
      rw [e1, s1]
      constructor <;> constructor <;> intro _ <;> omega
    · have e1 : clampB b m = m := by unfold clampB; omega
      have e2 : clampB B m = m := by unfold clampB; omega
      rw [e1, e2]
      exact ⟨Iff.rfl, Iff.rfl⟩
/-- The program's comparison and the specification's. -/
theorem above_rooted {k d m b B : Int} (hd : 1 ≤ d) (hb : 0 ≤ b) (hB : b ≤ B) (hk : k * k < b * b * d) :
    (0 ≤ ssq k - ssq (clampB b m) * d ↔ rootedS (clampB B m) d k ≤ 0) ∧ (ssq k - ssq (clampB b m) * d ≤ 0 ↔ 0 ≤ rootedS (clampB B m) d k) := by
  obtain ⟨h1, h2⟩ := clamp_same (m := m) hd hb hB hk
  unfold rootedS
  constructor
  · rw [show (0 ≤ ssq k - ssq (clampB b m) * d) ↔ ssq (clampB b m) * d ≤ ssq k by omega, h1]
    split
    · omega
    · split <;> omega
  · rw [show (ssq k - ssq (clampB b m) * d ≤ 0) ↔ ssq k ≤ ssq (clampB b m) * d by omega, h2]
    split
    · omega
    · split <;> omega
/-- A product of vectors is at most the product of their lengths. -/
theorem cauchy (a b c x y z : Int) : (a * x + b * y + c * z) * (a * x + b * y + c * z) ≤ (a * a + b * b + c * c) * (x * x + y * y + z * z) := by
  have h1 := sq_nn (a * y - b * x)
  have h2 := sq_nn (a * z - c * x)
  have h3 := sq_nn (b * z - c * y)
  have e : (a * a + b * b + c * c) * (x * x + y * y + z * z) - (a * x + b * y + c * z) * (a * x + b * y + c * z) = (a * y - b * x) * (a * y - b * x) + (a * z - c * x) * (a * z - c * x) + (b * z - c * y) * (b * z - c * y) := by
    simp only [Int.sub_mul, Int.mul_sub, Int.add_mul, Int.mul_add]
    simp only [Int.mul_comm, Int.mul_left_comm]
    omega
  omega
end Ring9
end Go.Proofs.YtpphnnijnnfngaaGreatDoor

/-
  Whole numbers against multiples of a square root: sums (plain).
-/
namespace Go.Proofs.YtpphnnijnnfngaaGreatDoor
namespace Ring9

/-- m times the root of d is at most k. -/
def RootLe (d m k : Int) : Prop := ssq m * d ≤ ssq k
theorem sq_lt_of {a b : Int} (hb : 0 ≤ b) (h : a * a ≤ b * b) : a ≤ b := by
  rcases (show a ≤ b ∨ b < a by omega) with h1 | h1
  · exact h1
  · have h2 : b * b ≤ b * a := Int.mul_le_mul_of_nonneg_left (by omega) hb
    have h3 : b * a < a * a := Int.mul_lt_mul_of_pos_right h1 (by omega)
    omega
theorem prod_le {d m n x y : Int} (hd : 0 ≤ d) (hm : 0 ≤ m) (hn : 0 ≤ n) (h1 : x * x ≤ m * m * d) (h2 : y * y ≤ n * n * d) : x * y ≤ m * n * d := by
  refine sq_lt_of (Int.mul_nonneg (Int.mul_nonneg hm hn) hd) ?_
  have e1 : x * y * (x * y) = x * x * (y * y) := by simp only [Int.mul_assoc, Int.mul_left_comm]
  have e2 : m * n * d * (m * n * d) = m * m * d * (n * n * d) := by simp only [Int.mul_comm, Int.mul_left_comm]
  rw [e1, e2]
  exact Int.mul_le_mul h1 h2 (sq_nn y) (Int.mul_nonneg (Int.mul_nonneg hm hm) hd)
theorem prod_ge {d m n x y : Int} (hd : 0 ≤ d) (_hm : 0 ≤ m) (hn : 0 ≤ n) (hx : 0 ≤ x) (hy : 0 ≤ y) (h1 : m * m * d ≤ x * x) (h2 : n * n * d ≤ y * y) : m * n * d ≤ x * y := by
  refine sq_lt_of (Int.mul_nonneg hx hy) ?_
  have e1 : x * y * (x * y) = x * x * (y * y) := by simp only [Int.mul_assoc, Int.mul_left_comm]
  have e2 : m * n * d * (m * n * d) = m * m * d * (n * n * d) := by simp only [Int.mul_comm, Int.mul_left_comm]
  rw [e1, e2]
  exact Int.mul_le_mul h1 h2 (Int.mul_nonneg (Int.mul_nonneg hn hn) hd) (sq_nn x)
theorem sq_add (x y : Int) : (x + y) * (x + y) = x * x + 2 * (x * y) + y * y := by
  rw [Int.add_mul, Int.mul_add, Int.mul_add, Int.mul_comm y x]
  omega
theorem sq_addd (m n d : Int) : (m + n) * (m + n) * d = m * m * d + 2 * (m * n * d) + n * n * d := by
  rw [sq_add, Int.add_mul, Int.add_mul, Int.mul_assoc 2]
theorem up_add {d m n x y : Int} (hd : 0 ≤ d) (hm : 0 ≤ m) (hn : 0 ≤ n) (h1 : x * x ≤ m * m * d) (h2 : y * y ≤ n * n * d) : (x + y) * (x + y) ≤ (m + n) * (m + n) * d := by
  have h := prod_le hd hm hn h1 h2
  rw [sq_add, sq_addd]
  omega
theorem up_add' {d m n x y : Int} (hd : 0 ≤ d) (hm : 0 ≤ m) (hn : 0 ≤ n) (h1 : x * x < m * m * d) (h2 : y * y ≤ n * n * d) : (x + y) * (x + y) < (m + n) * (m + n) * d := by
  have h := prod_le hd hm hn (Int.le_of_lt h1) h2
  rw [sq_add, sq_addd]
  omega
theorem dn_add {d m n x y : Int} (hd : 0 ≤ d) (hm : 0 ≤ m) (hn : 0 ≤ n) (hx : 0 ≤ x) (hy : 0 ≤ y) (h1 : m * m * d ≤ x * x) (h2 : n * n * d ≤ y * y) : (m + n) * (m + n) * d ≤ (x + y) * (x + y) := by
  have h := prod_ge hd hm hn hx hy h1 h2
  rw [sq_addd, sq_add]
  omega
theorem dn_add' {d m n x y : Int} (hd : 0 ≤ d) (hm : 0 ≤ m) (hn : 0 ≤ n) (hx : 0 ≤ x) (hy : 0 ≤ y) (h1 : m * m * d < x * x) (h2 : n * n * d ≤ y * y) : (m + n) * (m + n) * d < (x + y) * (x + y) := by
  have h := prod_ge hd hm hn hx hy (Int.le_of_lt h1) h2
  rw [sq_addd, sq_add]
  omega
/-- What it says, by signs. -/
theorem rootLe_iff {d m k : Int} (hd : 1 ≤ d) : RootLe d m k ↔ (m ≤ 0 ∧ 0 ≤ k) ∨ (0 ≤ m ∧ 0 ≤ k ∧ m * m * d ≤ k * k) ∨ (m ≤ 0 ∧ k ≤ 0 ∧ k * k ≤ m * m * d) := by
  have hm := sq_nn m
  have hk := sq_nn k
  have hmd : 0 ≤ m * m * d := Int.mul_nonneg hm (by omega)
  have pos : ∀ z : Int, z ≠ 0 → 0 < z * z := fun z hz => by
    rcases (show 0 < z ∨ z < 0 by omega) with h | h
    · exact Int.mul_pos h h
    · exact Int.mul_pos_of_neg_of_neg h h
  unfold RootLe ssq
  rcases (show m < 0 ∨ 0 ≤ m by omega) with h1 | h1 <;> rcases (show k < 0 ∨ 0 ≤ k by omega) with h2 | h2
  · rw [if_pos h1, if_pos h2, Int.neg_mul]
    constructor
    · intro h; right; right; exact ⟨by omega, by omega, by omega⟩
    · rintro (⟨_, h⟩ | ⟨h, _⟩ | ⟨_, _, h⟩) <;> omega
  · rw [if_pos h1, if_neg (by omega), Int.neg_mul]
    constructor
    · intro _; left; exact ⟨by omega, h2⟩
    · intro _; omega
  · rw [if_neg (by omega), if_pos h2]
    constructor
    · intro h
      have := pos k (by omega)
      omega
    · rintro (⟨_, h⟩ | ⟨_, h, _⟩ | ⟨h3, _, h⟩)
      · omega
      · omega
      · obtain rfl : m = 0 := by omega
        have := pos k (by omega)
        simp at h
        omega
  · rw [if_neg (by omega), if_neg (by omega)]
    constructor
    · intro h; right; left; exact ⟨h1, h2, h⟩
    · rintro (⟨h, _⟩ | ⟨_, _, h⟩ | ⟨h3, h4, _⟩)
      · obtain rfl : m = 0 := by omega
        simp
        exact hk
      · exact h
      · obtain rfl : m = 0 := by omega
        obtain rfl : k = 0 := by omega
        simp
theorem sq_negs (x : Int) : -x * -x = x * x := Int.neg_mul_neg _ _
/-- Sums. -/
theorem rootLe_add {d m1 m2 k1 k2 : Int} (hd : 1 ≤ d) (h1 : RootLe d m1 k1) (h2 : RootLe d m2 k2) : RootLe d (m1 + m2) (k1 + k2) := by
  have hd0 : 0 ≤ d := by omega
  have key : ∀ {m1 m2 k1 k2 : Int}, ((m1 ≤ 0 ∧ 0 ≤ k1) ∨ (0 ≤ m1 ∧ 0 ≤ k1 ∧ m1 * m1 * d ≤ k1 * k1) ∨ (m1 ≤ 0 ∧ k1 ≤ 0 ∧ k1 * k1 ≤ m1 * m1 * d)) → 0 ≤ m2 → 0 ≤ k2 → m2 * m2 * d ≤ k2 * k2 → RootLe d (m1 + m2) (k1 + k2) := by
    intro m1 m2 k1 k2 h1 a2 b2 c2
    rw [rootLe_iff hd]
    rcases h1 with ⟨a1, b1⟩ | ⟨a1, b1, c1⟩ | ⟨a1, b1, c1⟩
    · rcases (show m1 + m2 ≤ 0 ∨ 0 < m1 + m2 by omega) with h | h
      · left; exact ⟨h, by omega⟩
      · right; left
        have q1 : (m1 + m2) * (m1 + m2) ≤ m2 * m2 := sq_le (by omega) (by omega)
        have q2 : k2 * k2 ≤ (k1 + k2) * (k1 + k2) := sq_le b2 (by omega)
        have q3 : (m1 + m2) * (m1 + m2) * d ≤ m2 * m2 * d := Int.mul_le_mul_of_nonneg_right q1 hd0
        exact ⟨by omega, by omega, by omega⟩
    · right; left; exact ⟨by omega, by omega, dn_add hd0 a1 a2 b1 b2 c1 c2⟩
    · -- one is above, the other below
      obtain ⟨b, hb⟩ : ∃ b, -m1 = b := ⟨_, rfl⟩
      obtain ⟨a, ha⟩ : ∃ a, -k1 = a := ⟨_, rfl⟩
      have c1' : a * a ≤ b * b * d := by rw [← hb, ← ha, sq_negs, sq_negs]; exact c1
      rw [show m1 + m2 = m2 - b by omega, show k1 + k2 = k2 - a by omega]
      have hb0 : 0 ≤ b := by omega
      have ha0 : 0 ≤ a := by omega
      rcases (show 0 ≤ m2 - b ∨ m2 - b < 0 by omega) with hm | hm
      · -- then k2 - a is not less
        have hk : 0 ≤ k2 - a ∧ (m2 - b) * (m2 - b) * d ≤ (k2 - a) * (k2 - a) := by
          rcases (show 0 ≤ k2 - a ∨ k2 - a < 0 by omega) with hk | hk
          · refine ⟨hk, ?_⟩
            rcases (show (m2 - b) * (m2 - b) * d ≤ (k2 - a) * (k2 - a) ∨ (k2 - a) * (k2 - a) < (m2 - b) * (m2 - b) * d by omega) with h | h
            · exact h
            · have := up_add' hd0 hm hb0 h c1'
              rw [show k2 - a + a = k2 by omega, show m2 - b + b = m2 by omega] at this
              omega
          · exfalso
            have q1 : k2 * k2 < a * a := by
              have h5 : k2 * k2 ≤ k2 * a := Int.mul_le_mul_of_nonneg_left (by omega) b2
              have h6 : k2 * a < a * a := Int.mul_lt_mul_of_pos_right (by omega) (by omega)
              omega
            have q2 : b * b * d ≤ m2 * m2 * d := Int.mul_le_mul_of_nonneg_right (sq_le hb0 (by omega)) hd0
            omega
        right; left; exact ⟨hm, hk.1, hk.2⟩
      · rcases (show 0 ≤ k2 - a ∨ k2 - a < 0 by omega) with hk | hk
        · left; exact ⟨by omega, hk⟩
        · right; right
          refine ⟨by omega, by omega, ?_⟩
          rcases (show (k2 - a) * (k2 - a) ≤ (m2 - b) * (m2 - b) * d ∨ (m2 - b) * (m2 - b) * d < (k2 - a) * (k2 - a) by omega) with h | h
          · exact h
          · have h' : (b - m2) * (b - m2) * d < (a - k2) * (a - k2) := by
              rw [show b - m2 = -(m2 - b) by omega, show a - k2 = -(k2 - a) by omega, sq_negs, sq_negs]; exact h
            have := dn_add' hd0 (show 0 ≤ b - m2 by omega) a2 (show 0 ≤ a - k2 by omega) b2 h' c2
            rw [show b - m2 + m2 = b by omega, show a - k2 + k2 = a by omega] at this
            omega
  have g1 := (rootLe_iff hd).1 h1
  have g2 := (rootLe_iff hd).1 h2
  rcases g2 with ⟨a2, b2⟩ | ⟨a2, b2, c2⟩ | ⟨a2, b2, c2⟩
  · rcases g1 with ⟨a1, b1⟩ | ⟨a1, b1, c1⟩ | ⟨a1, b1, c1⟩
    · rw [rootLe_iff hd]; left; exact ⟨by omega, by omega⟩
    · rw [Int.add_comm m1, Int.add_comm k1]; exact key (.inl ⟨a2, b2⟩) a1 b1 c1
    · rw [rootLe_iff hd]
      rcases (show 0 ≤ k1 + k2 ∨ k1 + k2 < 0 by omega) with h | h
      · left; exact ⟨by omega, h⟩
      · right; right
        have q1 : (k1 + k2) * (k1 + k2) ≤ k1 * k1 := by
          have := sq_le (show 0 ≤ -(k1 + k2) by omega) (show -(k1 + k2) ≤ -k1 by omega)
          rw [sq_negs, sq_negs] at this
          exact this
        have q2 : m1 * m1 ≤ (m1 + m2) * (m1 + m2) := by
          have := sq_le (show 0 ≤ -m1 by omega) (show -m1 ≤ -(m1 + m2) by omega)
          rw [sq_negs, sq_negs] at this
          exact this
        have q3 : m1 * m1 * d ≤ (m1 + m2) * (m1 + m2) * d := Int.mul_le_mul_of_nonneg_right q2 hd0
        exact ⟨by omega, by omega, by omega⟩
  · exact key g1 a2 b2 c2
  · rcases g1 with ⟨a1, b1⟩ | ⟨a1, b1, c1⟩ | ⟨a1, b1, c1⟩
    · rw [rootLe_iff hd]
      rcases (show 0 ≤ k1 + k2 ∨ k1 + k2 < 0 by omega) with h | h
      · left; exact ⟨by omega, h⟩
      · right; right
        have q1 : (k1 + k2) * (k1 + k2) ≤ k2 * k2 := by
          have := sq_le (show 0 ≤ -(k1 + k2) by omega) (show -(k1 + k2) ≤ -k2 by omega)
          rw [sq_negs, sq_negs] at this
          exact this
        have q2 : m2 * m2 ≤ (m1 + m2) * (m1 + m2) := by
          have := sq_le (show 0 ≤ -m2 by omega) (show -m2 ≤ -(m1 + m2) by omega)
          rw [sq_negs, sq_negs] at this
          exact this
        have q3 : m2 * m2 * d ≤ (m1 + m2) * (m1 + m2) * d := Int.mul_le_mul_of_nonneg_right q2 hd0
        exact ⟨by omega, by omega, by omega⟩
    · rw [Int.add_comm m1, Int.add_comm k1]; exact key (.inr (.inr ⟨a2, b2, c2⟩)) a1 b1 c1
    · rw [rootLe_iff hd]
      right; right
      refine ⟨by omega, by omega, ?_⟩
      have := up_add hd0 (show 0 ≤ -m1 by omega) (show 0 ≤ -m2 by omega) (x := k1) (y := k2) (by rw [sq_negs]; exact c1) (by rw [sq_negs]; exact c2)
      rw [show -m1 + -m2 = -(m1 + m2) by omega, sq_negs] at this
      exact this
/-- Not above: then the other way round, with signs turned. -/
theorem rootLe_not {d m k : Int} (h : ¬ RootLe d m k) : RootLe d (-m) (-k) := by
  unfold RootLe at *
  rw [ssq_neg, ssq_neg, Int.neg_mul]
  omega
theorem rootLe_mono {d m m' k : Int} (hd : 1 ≤ d) (h : RootLe d m k) (hm : m' ≤ m) : RootLe d m' k := by
  have h2 : RootLe d (m' - m) 0 := by
    rw [rootLe_iff hd]; left; exact ⟨by omega, Int.le_refl _⟩
  have := rootLe_add hd h h2
  rw [show m + (m' - m) = m' by omega, Int.add_zero] at this
  exact this
/-- What was heard at two sites, each wrong by less than its slack, fits: P9.9. -/
theorem heard_fits {d x1 x2 t1 t2 e1 e2 s1 s2 : Int} (hd : 1 ≤ d) (a1 : RootLe d t1 x1) (b1 : ¬ RootLe d (t1 + 1) x1) (a2 : RootLe d t2 x2) (b2 : ¬ RootLe d (t2 + 1) x2)
    (h1 : -s1 < e1 ∧ e1 < s1) (h2 : -s2 < e2 ∧ e2 < s2) :
    RootLe d ((t2 + e2) - (t1 + e1) - (s2 + s1)) (x2 - x1) ∧ ssq (x2 - x1) ≤ ssq ((t2 + e2) - (t1 + e1) + (s2 + s1)) * d := by
  have p := rootLe_add hd a2 (rootLe_not b1)
  have q := rootLe_add hd a1 (rootLe_not b2)
  have p2 := rootLe_mono hd p (show (t2 + e2) - (t1 + e1) - (s2 + s1) ≤ t2 + -(t1 + 1) by omega)
  have q2 := rootLe_mono hd q (show -((t2 + e2) - (t1 + e1) + (s2 + s1)) ≤ t1 + -(t2 + 1) by omega)
  refine ⟨by rw [show x2 - x1 = x2 + -x1 by omega]; exact p2, ?_⟩
  unfold RootLe at q2
  rw [ssq_neg, Int.neg_mul, show x1 + -x2 = -(x2 - x1) by omega, ssq_neg] at q2
  omega
end Ring9
end Go.Proofs.YtpphnnijnnfngaaGreatDoor
