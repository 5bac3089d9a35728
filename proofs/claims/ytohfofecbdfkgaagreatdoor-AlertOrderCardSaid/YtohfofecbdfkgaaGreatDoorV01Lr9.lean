/-
  The walk of Mod: a number brought to 0 .. many - 1.
-/
import Derived.Test.YtohfofecbdfkgaaGreatDoorU01
import Derived.WalkSmall
namespace Go.Proofs.YtohfofecbdfkgaaGreatDoor
open Go.RowKit Al

theorem tmod_neg {n m : Int} (hn : n < 0) (_ : 1 ≤ m) : n.tmod m = -((-n) % m) := by
  obtain ⟨z, rfl⟩ : ∃ z, n = -z := ⟨-n, by omega⟩
  rw [Int.neg_tmod, Int.tmod_eq_emod_of_nonneg (by omega), Int.neg_neg]
theorem mod_case {n m : Int} (hn : n < 0) (hm : 1 ≤ m) : (n.tmod m = 0 ∧ n % m = 0) ∨ (n.tmod m < 0 ∧ n % m = n.tmod m + m ∧ -m < n.tmod m) := by
  have h1 := tmod_neg hn hm
  have h2 := Int.emod_nonneg (-n) (show m ≠ 0 by omega)
  have h3 := Int.emod_lt_of_pos (-n) (show 0 < m by omega)
  have h4 := Int.emod_nonneg n (show m ≠ 0 by omega)
  have h5 := Int.emod_lt_of_pos n (show 0 < m by omega)
  have d1 : m ∣ n - n % m := Int.dvd_self_sub_emod
  have d2 : m ∣ -n - (-n) % m := Int.dvd_self_sub_emod
  have d3 := Int.dvd_add d1 d2
  have e : n - n % m + (-n - (-n) % m) = -(n % m + (-n) % m) := by omega
  rw [e] at d3
  have d4 := Int.dvd_neg.1 d3
  obtain ⟨k, hk⟩ := d4
  by_cases hz : (-n) % m = 0
  · left
    rw [hz] at hk h1
    refine ⟨by omega, ?_⟩
    have hk0 : k = 0 := by
      by_cases h : k ≤ 0
      · by_cases h' : k = 0
        · exact h'
        · have := Int.mul_le_mul_of_nonneg_left (show k ≤ -1 by omega) (show 0 ≤ m by omega); omega
      · have := Int.mul_le_mul_of_nonneg_left (show 1 ≤ k by omega) (show 0 ≤ m by omega); omega
    rw [hk0] at hk
    omega
  · right
    have hk1 : k = 1 := by
      by_cases h : k ≤ 0
      · have := Int.mul_le_mul_of_nonneg_left h (show 0 ≤ m by omega); omega
      · by_cases h' : k = 1
        · exact h'
        · have := Int.mul_le_mul_of_nonneg_left (show 2 ≤ k by omega) (show 0 ≤ m by omega); omega
    rw [hk1] at hk
    omega
theorem Mod_ (n m : Int) (hm : 1 ≤ m) (hm2 : m ≤ 4611686018427387904) (w : World) :
    Calls Tryz.prog 11 #[.int .i64 n, .int .i64 m] w fun e w' => e = .returned (.int .i64 (n % m)) ∧ w = w' := by
  have hm0 : (m == 0) = false := by simp; omega
  have hm3 : ¬ m < 1 := by omega
  by_cases hn : 0 ≤ n
  · have h4 := Int.emod_nonneg n (show m ≠ 0 by omega)
    have h5 : ¬ n % m < 0 := by omega
    go_enter Tryz.func11, Tryz.ntmps11
    go_wp2
    go_ret
    exact ⟨rfl, rfl⟩
  · have hn' : n < 0 := by omega
    rcases mod_case hn' hm with ⟨h1, h2⟩ | ⟨h1, h2, h3⟩
    · have H2 := Lib.hid h2
      clear h2
      go_enter Tryz.func11, Tryz.ntmps11
      go_wp2
      go_ret
      exact ⟨ret_int (by rw [H2.out]), rfl⟩
    · have H2 := Lib.hid h2
      clear h2
      go_enter Tryz.func11, Tryz.ntmps11
      go_wp2
      go_ret
      exact ⟨ret_int (by rw [H2.out]), rfl⟩
end Go.Proofs.YtohfofecbdfkgaaGreatDoor
