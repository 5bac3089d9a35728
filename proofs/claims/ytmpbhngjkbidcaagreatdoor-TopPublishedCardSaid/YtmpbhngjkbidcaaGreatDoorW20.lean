/-
  Plain facts on keys: the secret of a key by the extended algorithm of Euclid, and by search.
-/
import Derived.Test.YtmpbhngjkbidcaaGreatDoorW01
import Derived.WalkSmall
import Derived.Laws.ResultCell
namespace Go.Proofs.YtmpbhngjkbidcaaGreatDoor
namespace Al

/-- d is the secret of the exponent e, the multiple being L. -/
def Sec (L e d : Int) : Prop := 1 ≤ d ∧ d ≤ L ∧ L ∣ d * e - 1
/-- The secret, by search. -/
def secretI (L e : Int) : Int := (((List.range (L.toNat + 1)).find? fun (d : Nat) => decide (1 ≤ d) && decide (((d : Int) * e - 1) % L = 0)).getD 0 : Nat)

theorem dvd_small {L z : Int} (h : L ∣ z) (h1 : -L < z) (h2 : z < L) : z = 0 := by
  obtain ⟨k, rfl⟩ := h
  by_cases hk : k = 0
  · subst hk; simp
  · exfalso
    have hL : 0 < L := by omega
    rcases Int.lt_or_gt_of_ne hk with hk | hk
    · have := Int.mul_le_mul_of_nonneg_left (show k ≤ -1 by omega) (Int.le_of_lt hL)
      omega
    · have := Int.mul_le_mul_of_nonneg_left (show 1 ≤ k by omega) (Int.le_of_lt hL)
      omega
theorem Sec.uniq {L e d d' : Int} (h : Sec L e d) (h' : Sec L e d') : d = d' := by
  have h1 : L ∣ d * (d' * e - 1) := Int.dvd_mul_of_dvd_right h'.2.2
  have h2 : L ∣ d' * (d * e - 1) := Int.dvd_mul_of_dvd_right h.2.2
  have h3 := Int.dvd_sub h2 h1
  have e3 : d' * (d * e - 1) - d * (d' * e - 1) = d - d' := by
    rw [Int.mul_sub, Int.mul_sub, Int.mul_left_comm d' d e, Int.mul_one, Int.mul_one]; omega
  rw [e3] at h3
  have := dvd_small h3 (by have := h.1; have := h'.2.1; omega) (by have := h'.1; have := h.2.1; omega)
  omega
theorem secretI_eq {L e d : Int} (h : Sec L e d) : secretI L e = d := by
  have hd : ((d.toNat : Nat) : Int) = d := Int.toNat_of_nonneg (by have := h.1; omega)
  have hin : ((List.range (L.toNat + 1)).find? fun (d : Nat) => decide (1 ≤ d) && decide (((d : Int) * e - 1) % L = 0)).isSome = true := by
    rw [List.find?_isSome]
    refine ⟨d.toNat, List.mem_range.2 (by have := h.1; have := h.2.1; omega), ?_⟩
    rw [hd]
    simp only [Bool.and_eq_true, decide_eq_true_eq]
    exact ⟨by have := h.1; omega, Int.emod_eq_zero_of_dvd h.2.2⟩
  obtain ⟨d', hf⟩ := Option.isSome_iff_exists.1 hin
  have hp := List.find?_some hf
  have hm := List.mem_of_find?_eq_some hf
  simp only [Bool.and_eq_true, decide_eq_true_eq] at hp
  have hs : Sec L e d' := ⟨by omega, by have := List.mem_range.1 hm; have := h.1; have := h.2.1; omega, Int.dvd_of_emod_eq_zero hp.2⟩
  unfold secretI
  rw [hf]
  exact hs.uniq h

/-- What holds at each round of the extended algorithm. -/
structure Euc (L e a b x y : Int) : Prop where
  pos : 1 ≤ a
  nn : 0 ≤ b
  gcd : Nat.gcd a.toNat b.toNat = Nat.gcd L.toNat e.toNat
  dx : L ∣ x * e - a
  dy : L ∣ y * e - b
  det : (0 ≤ y ∧ x ≤ 0 ∧ y * a - x * b = L) ∨ (y ≤ 0 ∧ 0 ≤ x ∧ y * a - x * b = -L)
  bx : -L ≤ x ∧ x ≤ L
  ba : a ≤ L
  bb : b ≤ L

theorem Euc.start {L e : Int} (hL : 1 ≤ L) (he : 0 ≤ e) : Euc L e L (e % L) 0 1 where
  pos := hL
  nn := Int.emod_nonneg _ (by omega)
  gcd := by
    obtain ⟨l, rfl⟩ := Int.eq_ofNat_of_zero_le (a := L) (by omega)
    obtain ⟨k, rfl⟩ := Int.eq_ofNat_of_zero_le he
    rw [← Int.natCast_emod, Int.toNat_natCast, Int.toNat_natCast, Int.toNat_natCast, gcdI_step, Nat.gcd_comm]
  dx := by
    rw [Int.zero_mul, Int.zero_sub]
    exact Int.dvd_neg.2 (Int.dvd_refl L)
  dy := by rw [Int.one_mul]; exact Int.dvd_self_sub_emod
  det := .inl ⟨by omega, by omega, by rw [Int.one_mul, Int.zero_mul]; omega⟩
  bx := by omega
  ba := Int.le_refl _
  bb := Int.le_of_lt (Int.emod_lt_of_pos _ (by omega))

theorem Euc.by_ {L e a b x y : Int} (h : Euc L e a b x y) : -L ≤ y ∧ y ≤ L := by
  rcases h.det with ⟨h1, h2, h3⟩ | ⟨h1, h2, h3⟩
  · have e1 := Int.mul_le_mul_of_nonneg_left h.pos h1
    have e2 := Int.mul_nonneg (show 0 ≤ -x by omega) h.nn
    rw [Int.neg_mul] at e2
    omega
  · have e1 := Int.mul_le_mul_of_nonneg_left h.pos (show 0 ≤ -y by omega)
    have e2 := Int.mul_nonneg h2 h.nn
    rw [Int.neg_mul, Int.neg_mul] at e1
    omega

/-- What a round computes stays small. -/
structure Small (L a b y n : Int) : Prop where
  n0 : 0 ≤ n
  nL : n ≤ L
  nb0 : 0 ≤ n * b
  nba : n * b ≤ a
  ny1 : -L ≤ n * y
  ny2 : n * y ≤ L
  r0 : 0 ≤ a - n * b
  rb : a - n * b < b

theorem Euc.small {L e a b x y : Int} (h : Euc L e a b x y) (hb : 0 < b) : Small L a b y (a / b) := by
  have n0 : 0 ≤ a / b := Int.ediv_nonneg (by have := h.pos; omega) (by omega)
  have hm := Int.emod_add_mul_ediv a b
  have hlt := Int.emod_lt_of_pos a hb
  have hnn := Int.emod_nonneg a (show b ≠ 0 by omega)
  rw [Int.mul_comm b] at hm
  have nb : a / b ≤ a / b * b := by
    have := Int.mul_le_mul_of_nonneg_left (show 1 ≤ b by omega) n0
    omega
  have na : a / b ≤ a := by omega
  have ba := h.ba
  have key : -L ≤ a / b * y ∧ a / b * y ≤ L := by
    rcases h.det with ⟨h1, h2, h3⟩ | ⟨h1, h2, h3⟩
    · have e1 := Int.mul_le_mul_of_nonneg_right na h1
      have e2 := Int.mul_nonneg (show 0 ≤ -x by omega) h.nn
      have e3 := Int.mul_nonneg n0 h1
      rw [Int.neg_mul] at e2
      rw [Int.mul_comm a y] at e1
      omega
    · have e1 := Int.mul_le_mul_of_nonneg_right na (show 0 ≤ -y by omega)
      have e2 := Int.mul_nonneg h2 h.nn
      have e3 := Int.mul_nonneg n0 (show 0 ≤ -y by omega)
      rw [Int.mul_neg, Int.mul_neg, Int.mul_comm a y] at e1
      rw [Int.mul_neg] at e3
      omega
  exact ⟨n0, by omega, by omega, by omega, key.1, key.2, by omega, by omega⟩

theorem Euc.next {L e a b x y : Int} (h : Euc L e a b x y) (hb : 0 < b) : Euc L e b (a - a / b * b) y (x - a / b * y) := by
  have hs := h.small hb
  refine ⟨by omega, hs.r0, ?_, h.dy, ?_, ?_, h.by_, h.bb, ?_⟩
  · rw [← h.gcd]
    have hm := Int.emod_add_mul_ediv a b
    rw [Int.mul_comm b] at hm
    have e1 : a - a / b * b = a % b := by omega
    rw [e1]
    obtain ⟨c, rfl⟩ := Int.eq_ofNat_of_zero_le (a := a) (by have := h.pos; omega)
    obtain ⟨d, rfl⟩ := Int.eq_ofNat_of_zero_le h.nn
    rw [← Int.natCast_emod, Int.toNat_natCast, Int.toNat_natCast, Int.toNat_natCast, gcdI_step]
  · have := Int.dvd_sub h.dx (Int.dvd_mul_of_dvd_right (b := a / b) h.dy)
    have e1 : x * e - a - a / b * (y * e - b) = (x - a / b * y) * e - (a - a / b * b) := by
      rw [Int.mul_sub, Int.sub_mul, Int.mul_assoc]; omega
    rw [← e1]
    exact this
  · have n0 := hs.n0
    have e1 : (x - a / b * y) * b - y * (a - a / b * b) = -(y * a - x * b) := by
      rw [Int.sub_mul, Int.mul_sub, Int.mul_assoc, Int.mul_left_comm y (a / b) b]; omega
    rcases h.det with ⟨h1, h2, h3⟩ | ⟨h1, h2, h3⟩
    · refine .inr ⟨?_, h1, by omega⟩
      have := Int.mul_nonneg n0 h1
      omega
    · refine .inl ⟨?_, h1, by omega⟩
      have := Int.mul_nonneg n0 (show 0 ≤ -y by omega)
      rw [Int.mul_neg] at this
      omega
  · have := hs.rb
    have := h.bb
    omega

/-- At the end of the rounds: what is left is the greatest common divisor. -/
theorem Euc.last {L e a x y : Int} (h : Euc L e a 0 x y) (hg : gcdI L e = 1) : L ∣ x * e - 1 := by
  have hg' : Nat.gcd L.toNat e.toNat = 1 := by unfold gcdI at hg; omega
  have h1 := h.gcd
  rw [hg', Int.toNat_zero, Nat.gcd_zero_right] at h1
  have h2 := h.pos
  have h3 : a = 1 := by omega
  rw [← h3]
  exact h.dx
/-- The secret out of the last x. -/
theorem sec_of {L e x : Int} (hL : 2 ≤ L) (h : L ∣ x * e - 1) : Sec L e (if x.tmod L < 1 then x.tmod L + L else x.tmod L) := by
  have hd : L ∣ x - x.tmod L := Int.dvd_self_sub_tmod
  have hr : -L < x.tmod L ∧ x.tmod L < L := by
    by_cases hx : 0 ≤ x
    · rw [Int.tmod_eq_emod_of_nonneg hx]
      exact ⟨by have := Int.emod_nonneg x (show L ≠ 0 by omega); omega, Int.emod_lt_of_pos _ (by omega)⟩
    · obtain ⟨z, rfl⟩ : ∃ z, x = -z := ⟨-x, by omega⟩
      rw [Int.neg_tmod, Int.tmod_eq_emod_of_nonneg (by omega)]
      have := Int.emod_nonneg z (show L ≠ 0 by omega)
      have := Int.emod_lt_of_pos z (show 0 < L by omega)
      omega
  have hm : ∀ z, L ∣ x - z → L ∣ z * e - 1 := by
    intro z hz
    have := Int.dvd_sub h (Int.dvd_mul_of_dvd_left (c := e) hz)
    have e1 : x * e - 1 - (x - z) * e = z * e - 1 := by rw [Int.sub_mul]; omega
    rw [← e1]
    exact this
  split
  · refine ⟨by omega, by omega, hm _ ?_⟩
    have := Int.dvd_sub hd (Int.dvd_refl L)
    have e1 : x - x.tmod L - L = x - (x.tmod L + L) := by omega
    rw [← e1]
    exact this
  · exact ⟨by omega, by omega, hm _ hd⟩

/-- There is an inverse. -/
theorem inverse_nat (a b : Nat) : ∃ x y : Int, x * a + y * b = (Nat.gcd a b : Nat) := by
  induction a, b using Nat.gcd.induction with
  | H0 n => exact ⟨0, 1, by simp⟩
  | H1 m n hm ih =>
    obtain ⟨x, y, h⟩ := ih
    refine ⟨y - x * (n / m : Nat), x, ?_⟩
    rw [Nat.gcd_rec, ← h]
    have h1 : ((n % m : Nat) : Int) = n - m * (n / m : Nat) := by
      have := Nat.mod_add_div n m
      rw [← Int.natCast_mul]; omega
    rw [h1, Int.sub_mul, Int.mul_sub, Int.mul_assoc, Int.mul_comm (m : Int) ((n / m : Nat) : Int)]
    omega
/-- Some multiple of L, and 1, is a multiple of e. -/
theorem multiple {L e : Int} (hL : 0 ≤ L) (he : 1 ≤ e) (hg : gcdI L e = 1) : ∃ k : Nat, (k : Int) < e ∧ (1 + k * L) % e = 0 := by
  obtain ⟨l, rfl⟩ := Int.eq_ofNat_of_zero_le hL
  obtain ⟨m, rfl⟩ := Int.eq_ofNat_of_zero_le (a := e) (by omega)
  obtain ⟨x, y, h⟩ := inverse_nat l m
  have hg' : Nat.gcd l m = 1 := by rw [gcdI_nat] at hg; omega
  rw [hg'] at h
  have hnn := Int.emod_nonneg (-x) (show (m : Int) ≠ 0 by omega)
  refine ⟨((-x) % m).toNat, by rw [Int.toNat_of_nonneg hnn]; exact Int.emod_lt_of_pos _ (by omega), ?_⟩
  rw [Int.toNat_of_nonneg hnn]
  apply Int.emod_eq_zero_of_dvd
  have h1 : (m : Int) ∣ -x - (-x) % m := Int.dvd_self_sub_emod
  have h2 := Int.dvd_mul_of_dvd_left (c := (l : Int)) h1
  have h3 : (m : Int) ∣ y * m := Int.dvd_mul_left _ _
  have h4 := Int.dvd_sub h3 h2
  have e1 : y * m - (-x - (-x) % m) * l = 1 + (-x) % m * l := by rw [Int.sub_mul, Int.neg_mul]; omega
  rw [← e1]
  exact h4
/-- The quotient that the search comes to is the secret. -/
theorem sec_search {L e : Int} {k : Nat} (hL : 1 ≤ L) (he : 1 ≤ e) (hk : (k : Int) < e) (h : (1 + k * L) % e = 0) : Sec L e ((1 + k * L) / e) := by
  have hd := Int.emod_add_mul_ediv (1 + k * L) e
  rw [h] at hd
  have hkL := Int.mul_nonneg (Int.natCast_nonneg k) (show 0 ≤ L by omega)
  generalize (1 + k * L) / e = d at *
  rw [Int.mul_comm e d] at hd
  have h1 : 1 ≤ d := by
    by_cases hd0 : d ≤ 0
    · have := Int.mul_nonneg (show 0 ≤ -d by omega) (show 0 ≤ e by omega)
      rw [Int.neg_mul] at this
      omega
    · omega
  refine ⟨h1, ?_, ⟨k, by rw [Int.mul_comm L k]; omega⟩⟩
  by_cases hdL : L < d
  · have e1 := Int.mul_le_mul_of_nonneg_right (show L + 1 ≤ d by omega) (show 0 ≤ e by omega)
    have e2 := Int.mul_le_mul_of_nonneg_right (show (k : Int) ≤ e - 1 by omega) (show 0 ≤ L by omega)
    rw [Int.add_mul] at e1
    rw [Int.sub_mul] at e2
    rw [Int.mul_comm L e] at e1
    omega
  · omega

/-- Do two primes and an exponent make a key? -/
def keyB (p q e : Int) : Bool := primeB p && primeB q && !(p == q) && inB e 3 32749 && (gcdI ((p - 1) * (q - 1)) e == 1)
/-- The least common multiple of p - 1 and q - 1. -/
def lcmI (p q : Int) : Int := (p - 1) / gcdI (p - 1) (q - 1) * (q - 1)

end Al
end Go.Proofs.YtmpbhngjkbidcaaGreatDoor

/-
  The walks of the two functions that make keys.
-/
namespace Go.Proofs.YtmpbhngjkbidcaaGreatDoor
open Go.RowKit Al

/-- What MakeKey hands back. -/
def keyRet (m e s c : Int) : Ending := .returned (.tuple #[.agg #[.int .i64 m, .int .i64 e], .int .i64 s, .int .i64 c])

theorem key_cases {p q x : Int} (h : keyB p q x = false) :
    primeB p = false ∨ (primeB p = true ∧ primeB q = false) ∨ (primeB p = true ∧ p = q) ∨ (primeB p = true ∧ primeB q = true ∧ ¬ p = q ∧ inB x 3 32749 = false) ∨
    (primeB p = true ∧ primeB q = true ∧ ¬ p = q ∧ inB x 3 32749 = true ∧ (gcdI ((p - 1) * (q - 1)) x == 1) = false) := by
  unfold keyB at h
  by_cases h1 : primeB p = true <;> by_cases h2 : primeB q = true <;> by_cases h3 : p = q <;> by_cases h4 : inB x 3 32749 = true <;> simp_all
theorem key_yes {p q x : Int} (h : keyB p q x = true) :
    primeB p = true ∧ primeB q = true ∧ ¬ p = q ∧ inB x 3 32749 = true ∧ gcdI ((p - 1) * (q - 1)) x = 1 := by
  unfold keyB at h
  simp only [Bool.and_eq_true, Bool.not_eq_true', beq_eq_false_iff_ne, beq_iff_eq] at h
  exact ⟨h.1.1.1.1, h.1.1.1.2, h.1.1.2, h.1.2, h.2⟩
theorem primeB_in {p : Int} (h : primeB p = true) : 3 ≤ p ∧ p ≤ 32749 := by
  unfold primeB at h
  simp only [Bool.and_eq_true] at h
  exact inB_true.1 h.1
theorem phi_in {p q : Int} (hp : 3 ≤ p ∧ p ≤ 32749) (hq : 3 ≤ q ∧ q ≤ 32749) : 4 ≤ (p - 1) * (q - 1) ∧ (p - 1) * (q - 1) ≤ 1072431504 := by
  have h1 := Int.mul_le_mul_of_nonneg_right (show 2 ≤ p - 1 by omega) (show 0 ≤ q - 1 by omega)
  have h2 := Int.mul_le_mul_of_nonneg_right (show p - 1 ≤ 32748 by omega) (show 0 ≤ q - 1 by omega)
  omega

set_option maxHeartbeats 1000000 in
theorem makeKey_no (p q x : Int) (h : keyB p q x = false) (w : World) :
    Calls Tryz.prog 32 #[.int .i64 p, .int .i64 q, .int .i64 x] w fun e w' => e = keyRet 0 0 0 100 ∧ Below w.heap.size w w' := by
  rcases key_cases h with hp | ⟨hp, hq⟩ | ⟨hp, rfl⟩ | ⟨hp, hq, hne, hx⟩ | ⟨hp, hq, hne, hx, hg⟩
  · have Hp := Lib.hid hp
    clear h hp
    go_enter Tryz.func32, Tryz.ntmps32
    go_wp2_with (go_at_call 70; refine (prime_ _ _).mono ?_; rintro e w' ⟨rfl, rfl⟩; rw [Hp.out])
    exact bodyPost_ret (v := .tuple #[.agg #[.int .i64 0, .int .i64 0], .int .i64 0, .int .i64 100]) (by simp [results, Tryz.results32, go_sem]) rfl ⟨rfl, (by repeat (first | exact Below.refl _ _ | assumption | refine below_drewN ?_ _ | refine Below.drew ?_ | refine Below.setCell ?_ (by first | omega | (simp; done) | (simp; omega)) _ | refine Below.alloc ?_ (by first | omega | (simp; done) | (simp; omega)) _))⟩
  · have Hp := Lib.hid hp
    have Hq := Lib.hid hq
    clear h hp hq
    go_enter Tryz.func32, Tryz.ntmps32
    go_wp2_with (go_at_call 70; refine (prime_ _ _).mono ?_; rintro e w' ⟨rfl, rfl⟩; first | rw [Hp.out] | rw [Hq.out])
    exact bodyPost_ret (v := .tuple #[.agg #[.int .i64 0, .int .i64 0], .int .i64 0, .int .i64 100]) (by simp [results, Tryz.results32, go_sem]) rfl ⟨rfl, (by repeat (first | exact Below.refl _ _ | assumption | refine below_drewN ?_ _ | refine Below.drew ?_ | refine Below.setCell ?_ (by first | omega | (simp; done) | (simp; omega)) _ | refine Below.alloc ?_ (by first | omega | (simp; done) | (simp; omega)) _))⟩
  · have Hp := Lib.hid hp
    clear h hp
    go_enter Tryz.func32, Tryz.ntmps32
    go_wp2_with (go_at_call 70; refine (prime_ _ _).mono ?_; rintro e w' ⟨rfl, rfl⟩; rw [Hp.out])
    exact bodyPost_ret (v := .tuple #[.agg #[.int .i64 0, .int .i64 0], .int .i64 0, .int .i64 100]) (by simp [results, Tryz.results32, go_sem]) rfl ⟨rfl, (by repeat (first | exact Below.refl _ _ | assumption | refine below_drewN ?_ _ | refine Below.drew ?_ | refine Below.setCell ?_ (by first | omega | (simp; done) | (simp; omega)) _ | refine Below.alloc ?_ (by first | omega | (simp; done) | (simp; omega)) _))⟩
  · have Hp := Lib.hid hp
    have Hq := Lib.hid hq
    have Hx := Lib.hid hx
    have hne' : (p == q) = false := by simpa using hne
    clear h hp hq hx
    go_enter Tryz.func32, Tryz.ntmps32
    go_wp2_with (first
      | (go_at_call 70; refine (prime_ _ _).mono ?_; rintro e w' ⟨rfl, rfl⟩; first | rw [Hp.out] | rw [Hq.out])
      | (go_at_call 71; refine (within_ _ _ _ _).mono ?_; rintro e w' ⟨rfl, rfl⟩; rw [Hx.out]))
    exact bodyPost_ret (v := .tuple #[.agg #[.int .i64 0, .int .i64 0], .int .i64 0, .int .i64 100]) (by simp [results, Tryz.results32, go_sem]) rfl ⟨rfl, (by repeat (first | exact Below.refl _ _ | assumption | refine below_drewN ?_ _ | refine Below.drew ?_ | refine Below.setCell ?_ (by first | omega | (simp; done) | (simp; omega)) _ | refine Below.alloc ?_ (by first | omega | (simp; done) | (simp; omega)) _))⟩
  · have Hp := Lib.hid hp
    have Hq := Lib.hid hq
    have Hx := Lib.hid hx
    have Hg := Lib.hid hg
    have hne' : (p == q) = false := by simpa using hne
    have bp := primeB_in hp
    have bq := primeB_in hq
    have bx := inB_true.1 hx
    have bm := phi_in bp bq
    clear h hp hq hx hg
    go_enter Tryz.func32, Tryz.ntmps32
    go_wp2_with (first
      | (go_at_call 70; refine (prime_ _ _).mono ?_; rintro e w' ⟨rfl, rfl⟩; first | rw [Hp.out] | rw [Hq.out])
      | (go_at_call 71; refine (within_ _ _ _ _).mono ?_; rintro e w' ⟨rfl, rfl⟩; rw [Hx.out])
      | (go_at_call 72; refine (common_ _ _ (by omega) (by omega) _).mono ?_; rintro e w' ⟨rfl, n, rfl⟩; have hg' : (gcdI ((p - 1) * (q - 1)) x != 1) = true := by (rw [bne, Hg.out]; rfl)))
    exact bodyPost_ret (v := .tuple #[.agg #[.int .i64 0, .int .i64 0], .int .i64 0, .int .i64 100]) (by simp [results, Tryz.results32, go_sem]) rfl ⟨rfl, (by repeat (first | exact Below.refl _ _ | assumption | refine below_drewN ?_ _ | refine Below.drew ?_ | refine Below.setCell ?_ (by first | omega | (simp; done) | (simp; omega)) _ | refine Below.alloc ?_ (by first | omega | (simp; done) | (simp; omega)) _))⟩

/-- The multiple is at least 2, and small. -/
theorem lcmI_in {p q : Int} (hp : 3 ≤ p ∧ p ≤ 32749) (hq : 3 ≤ q ∧ q ≤ 32749) (hg1 : 1 ≤ gcdI (p - 1) (q - 1)) (hg2 : gcdI (p - 1) (q - 1) ≤ p - 1) : 2 ≤ lcmI p q ∧ lcmI p q ≤ 1072431504 := by
  have hm := phi_in hp hq
  unfold lcmI
  generalize gcdI (p - 1) (q - 1) = g at *
  have h1 : 1 ≤ (p - 1) / g := by
    rw [Int.le_ediv_iff_mul_le (by omega)]; omega
  have h2 : (p - 1) / g ≤ p - 1 := Int.ediv_le_self _ (by omega)
  have h3 := Int.mul_le_mul_of_nonneg_right h1 (show 0 ≤ q - 1 by omega)
  have h4 := Int.mul_le_mul_of_nonneg_right h2 (show 0 ≤ q - 1 by omega)
  omega
theorem gcd_pq {p q : Int} (hp : 3 ≤ p) (_hq : 3 ≤ q) : 1 ≤ gcdI (p - 1) (q - 1) ∧ gcdI (p - 1) (q - 1) ≤ p - 1 := by
  unfold gcdI
  have h1 := Nat.gcd_pos_of_pos_left (q - 1).toNat (show 0 < (p - 1).toNat by omega)
  have h2 := Nat.gcd_le_left (q - 1).toNat (show 0 < (p - 1).toNat by omega)
  omega
theorem gcd_dvd {a b d : Int} (ha : 0 ≤ a) (hb : 0 ≤ b) (h : b ∣ a) (hd : 0 ≤ d) (hg : gcdI a d = 1) : gcdI b d = 1 := by
  obtain ⟨a, rfl⟩ := Int.eq_ofNat_of_zero_le ha
  obtain ⟨b, rfl⟩ := Int.eq_ofNat_of_zero_le hb
  obtain ⟨d, rfl⟩ := Int.eq_ofNat_of_zero_le hd
  rw [gcdI_nat] at hg ⊢
  have h' : b ∣ a := Int.natCast_dvd_natCast.1 h
  have h1 : Nat.gcd b d ∣ Nat.gcd a d := Nat.dvd_gcd (Nat.dvd_trans (Nat.gcd_dvd_left _ _) h') (Nat.gcd_dvd_right _ _)
  have h2 : Nat.gcd a d = 1 := by omega
  rw [h2] at h1
  rw [Nat.eq_one_of_dvd_one h1]
  rfl
theorem lcm_gcd {p q x : Int} (hp : 3 ≤ p ∧ p ≤ 32749) (hq : 3 ≤ q ∧ q ≤ 32749) (hx : 3 ≤ x) (h : gcdI ((p - 1) * (q - 1)) x = 1) : gcdI (lcmI p q) x = 1 := by
  have hg := gcd_pq hp.1 hq.1
  refine gcd_dvd (by have := phi_in hp hq; omega) (by have := lcmI_in hp hq hg.1 hg.2; omega) ?_ (by omega) h
  unfold lcmI
  refine Int.mul_dvd_mul_right _ ?_
  have hd : gcdI (p - 1) (q - 1) ∣ p - 1 := by
    obtain ⟨a, ha⟩ := Int.eq_ofNat_of_zero_le (a := p - 1) (by omega)
    obtain ⟨b, hb⟩ := Int.eq_ofNat_of_zero_le (a := q - 1) (by omega)
    rw [ha, hb, gcdI_nat]
    exact Int.natCast_dvd_natCast.2 (Nat.gcd_dvd_left _ _)
  obtain ⟨c, hc⟩ := hd
  generalize gcdI (p - 1) (q - 1) = g at *
  have hg0 : g ≠ 0 := by omega
  exact ⟨g, by rw [hc, Int.mul_ediv_cancel_left _ hg0, Int.mul_comm]⟩

theorem pq_in {p q : Int} (hp : 3 ≤ p ∧ p ≤ 32749) (hq : 3 ≤ q ∧ q ≤ 32749) : 9 ≤ p * q ∧ p * q ≤ 1072497001 := by
  have h1 := Int.mul_le_mul_of_nonneg_right (show 3 ≤ p by omega) (show 0 ≤ q by omega)
  have h2 := Int.mul_le_mul_of_nonneg_right (show p ≤ 32749 by omega) (show 0 ≤ q by omega)
  omega

def EucRel (L x : Int) (va vb vx vy : Value) : Prop := ∃ a b u y : Int, va = .int .i64 a ∧ vb = .int .i64 b ∧ vx = .int .i64 u ∧ vy = .int .i64 y ∧ Hid (Euc L x a b u y)
set_option maxHeartbeats 2000000 in
theorem makeKey_yes (p q x : Int) (h : keyB p q x = true) (w : World) :
    Calls Tryz.prog 32 #[.int .i64 p, .int .i64 q, .int .i64 x] w fun e w' => e = keyRet (p * q) x (secretI (lcmI p q) x) 0 ∧ Below w.heap.size w w' := by
  obtain ⟨hp, hq, hne, hx, hg⟩ := key_yes h
  have hne' : (p == q) = false := by simpa using hne
  have bp := primeB_in hp
  have bq := primeB_in hq
  have bx := inB_true.1 hx
  have bm := phi_in bp bq
  have bg := gcd_pq bp.1 bq.1
  have bL := lcmI_in bp bq bg.1 bg.2
  have bpq := pq_in bp bq
  have gL := lcm_gcd bp bq bx.1 hg
  have hg' : (gcdI ((p - 1) * (q - 1)) x != 1) = false := by rw [bne, hg]; rfl
  have q1 : 1 ≤ (p - 1) / gcdI (p - 1) (q - 1) := by rw [Int.le_ediv_iff_mul_le (by omega)]; omega
  have q2 : (p - 1) / gcdI (p - 1) (q - 1) ≤ p - 1 := Int.ediv_le_self _ (by omega)
  have bL' := bL
  unfold lcmI at bL'
  have Hp := Lib.hid hp
  have Hq := Lib.hid hq
  have Hx := Lib.hid hx
  have HL := Lib.hid gL
  have HD : Hid (lcmI p q = (p - 1) / gcdI (p - 1) (q - 1) * (q - 1)) := rfl
  clear h hp hq hx hg gL
  go_enter Tryz.func32, Tryz.ntmps32
  go_wp2_with (first
    | (go_at_call 70; refine (prime_ _ _).mono ?_; rintro e w' ⟨rfl, rfl⟩; first | rw [Hp.out] | rw [Hq.out])
    | (go_at_call 71; refine (within_ _ _ _ _).mono ?_; rintro e w' ⟨rfl, rfl⟩; rw [Hx.out])
    | (go_at_call 72; refine (common_ _ _ (by omega) (by omega) _).mono ?_; rintro e w' ⟨rfl, n, rfl⟩))
  rw [← HD.out]
  clear bL' q1 q2
  go_quiet (fail)
  go_wp2
  go_loop [10, 11, 12, 13] (fun va vb vx vy => EucRel (lcmI p q) x va vb vx vy) (fun _ b _ _ => (intOf b).toNat)
  case atStart => exact ⟨_, _, _, _, rfl, rfl, rfl, rfl, Euc.start (by omega) (by omega)⟩
  case round =>
    obtain ⟨a, b, u, y, rfl, rfl, rfl, rfl, hE⟩ := hrel
    have e1 := hE.out.pos
    have e2 := hE.out.nn
    have e3 := hE.out.bx
    have e4 := hE.out.ba
    have e5 := hE.out.bb
    have e6 := hE.out.by_
    by_cases hb : 0 < b
    · obtain ⟨s1, s2, s3, s4, s5, s6, s7, s8⟩ := hE.out.small hb
      have hb0 : (b == 0) = false := by simp; omega
      go_wp2
      go_round
      case rel => exact ⟨_, _, _, _, ⟨_, _, _, _, rfl, rfl, rfl, rfl, hE.out.next hb⟩, rfl, rfl, rfl, rfl⟩
      case measure => simp [intOf]; omega
    · obtain rfl : b = 0 := by omega
      have HE := Lib.hid (sec_of bL.1 (hE.out.last HL.out))
      have HS : ∀ z, (if u.tmod (lcmI p q) < 1 then u.tmod (lcmI p q) + lcmI p q else u.tmod (lcmI p q)) = z → Ending.returned (.tuple #[.agg #[.int .i64 (p * q), .int .i64 x], .int .i64 z, .int .i64 0]) = keyRet (p * q) x (secretI (lcmI p q) x) 0 := by
        intro z hz
        rw [secretI_eq HE.out, hz]
        rfl
      have HS' := Lib.hid HS
      clear HS
      by_cases hu : 0 ≤ u
      · have r1 := Int.emod_nonneg u (show lcmI p q ≠ 0 by omega)
        have r2 := Int.emod_lt_of_pos u (show 0 < lcmI p q by omega)
        have ht := Int.tmod_eq_emod_of_nonneg (b := lcmI p q) hu
        have Ht := Lib.hid ht
        clear ht
        by_cases hs : u % lcmI p q < 1
        · go_wp2
          exact bodyPost_ret (v := .tuple #[.agg #[.int .i64 (p * q), .int .i64 x], .int .i64 (u % lcmI p q + lcmI p q), .int .i64 0]) (by simp [results, Tryz.results32, go_sem]) rfl ⟨HS'.out _ (by rw [Ht.out, if_pos hs]), (by repeat (first | exact Below.refl _ _ | assumption | refine below_drewN ?_ _ | refine Below.drew ?_ | refine Below.setCell ?_ (by first | omega | (simp; done) | (simp; omega)) _ | refine Below.alloc ?_ (by first | omega | (simp; done) | (simp; omega)) _))⟩
        · go_wp2
          exact bodyPost_ret (v := .tuple #[.agg #[.int .i64 (p * q), .int .i64 x], .int .i64 (u % lcmI p q), .int .i64 0]) (by simp [results, Tryz.results32, go_sem]) rfl ⟨HS'.out _ (by rw [Ht.out, if_neg (by omega)]), (by repeat (first | exact Below.refl _ _ | assumption | refine below_drewN ?_ _ | refine Below.drew ?_ | refine Below.setCell ?_ (by first | omega | (simp; done) | (simp; omega)) _ | refine Below.alloc ?_ (by first | omega | (simp; done) | (simp; omega)) _))⟩
      · have r1 : -(lcmI p q) < u.tmod (lcmI p q) ∧ u.tmod (lcmI p q) ≤ 0 := by
          obtain ⟨z, rfl⟩ : ∃ z, u = -z := ⟨-u, by omega⟩
          rw [Int.neg_tmod, Int.tmod_eq_emod_of_nonneg (by omega)]
          have := Int.emod_nonneg z (show lcmI p q ≠ 0 by omega)
          have := Int.emod_lt_of_pos z (show 0 < lcmI p q by omega)
          omega
        go_wp2
        exact bodyPost_ret (v := .tuple #[.agg #[.int .i64 (p * q), .int .i64 x], .int .i64 (u.tmod (lcmI p q) + lcmI p q), .int .i64 0]) (by simp [results, Tryz.results32, go_sem]) rfl ⟨HS'.out _ (by rw [if_pos (by omega)]), (by repeat (first | exact Below.refl _ _ | assumption | refine below_drewN ?_ _ | refine Below.drew ?_ | refine Below.setCell ?_ (by first | omega | (simp; done) | (simp; omega)) _ | refine Below.alloc ?_ (by first | omega | (simp; done) | (simp; omega)) _))⟩
end Go.Proofs.YtmpbhngjkbidcaaGreatDoor

/-
  The walks of the specification's function that makes keys.
-/
namespace Go.Proofs.YtmpbhngjkbidcaaGreatDoor
open Go.RowKit Al

theorem rkey_cases {p q x : Int} (h : keyB p q x = false) :
    inB p 3 32749 = false ∨ (inB p 3 32749 = true ∧ inB q 3 32749 = false) ∨ (inB p 3 32749 = true ∧ inB q 3 32749 = true ∧ inB x 3 32749 = false) ∨
    (inB p 3 32749 = true ∧ inB x 3 32749 = true ∧ p = q) ∨ (inB p 3 32749 = true ∧ inB q 3 32749 = true ∧ inB x 3 32749 = true ∧ ¬ p = q ∧ primeB p = false) ∨
    (inB p 3 32749 = true ∧ inB q 3 32749 = true ∧ inB x 3 32749 = true ∧ ¬ p = q ∧ primeB p = true ∧ primeB q = false) ∨
    (inB p 3 32749 = true ∧ inB q 3 32749 = true ∧ inB x 3 32749 = true ∧ ¬ p = q ∧ primeB p = true ∧ primeB q = true ∧ (gcdI ((p - 1) * (q - 1)) x == 1) = false) := by
  unfold keyB at h
  have hp : inB p 3 32749 = false → primeB p = false := primeB_no
  have hq : inB q 3 32749 = false → primeB q = false := primeB_no
  by_cases h1 : primeB p = true <;> by_cases h2 : primeB q = true <;> by_cases h3 : p = q <;> by_cases h4 : inB x 3 32749 = true <;> by_cases h5 : inB p 3 32749 = true <;> by_cases h6 : inB q 3 32749 = true <;> simp_all
theorem gcd_pos {a b : Int} (ha : 0 < a) : 1 ≤ gcdI a b := by
  unfold gcdI
  have h1 := Nat.gcd_pos_of_pos_left b.toNat (show 0 < a.toNat by omega)
  omega

theorem lcm_ref {p q : Int} (hp : 3 ≤ p ∧ p ≤ 32749) (hq : 3 ≤ q ∧ q ≤ 32749) : (p - 1) * (q - 1) / gcdI (p - 1) (q - 1) = lcmI p q := by
  have hg := gcd_pq hp.1 hq.1
  unfold lcmI
  have hd : gcdI (p - 1) (q - 1) ∣ p - 1 := by
    obtain ⟨a, ha⟩ := Int.eq_ofNat_of_zero_le (a := p - 1) (by omega)
    obtain ⟨b, hb⟩ := Int.eq_ofNat_of_zero_le (a := q - 1) (by omega)
    rw [ha, hb, gcdI_nat]
    exact Int.natCast_dvd_natCast.2 (Nat.gcd_dvd_left _ _)
  rw [Int.mul_comm (p - 1), Int.mul_ediv_assoc _ hd, Int.mul_comm]

end Go.Proofs.YtmpbhngjkbidcaaGreatDoor
