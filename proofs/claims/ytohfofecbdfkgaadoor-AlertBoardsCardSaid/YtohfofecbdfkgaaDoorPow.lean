/-
  The walks of the two functions that calculate powers.
-/
import Derived.Test.YtohfofecbdfkgaaDoorAr
import Derived.WalkSmall
namespace Go.Proofs.YtohfofecbdfkgaaDoor
open Go.RowKit Al

theorem rpower_ (n e m : Int) (hn : 0 ≤ n) (he : 0 ≤ e) (he2 : e ≤ 1073741824) (hm1 : 1 ≤ m) (hm2 : m ≤ 1073741824) (w : World) :
    Calls Tryd.prog 66 #[.int .i64 n, .int .i64 e, .int .i64 m] w fun e' w' => e' = .returned (.int .i64 (pw n e m)) ∧ w = w' := by
  obtain ⟨n, rfl⟩ := Int.eq_ofNat_of_zero_le hn
  obtain ⟨e, rfl⟩ := Int.eq_ofNat_of_zero_le he
  obtain ⟨m, rfl⟩ := Int.eq_ofNat_of_zero_le (a := m) (by omega)
  have hm0 : ((m : Int) == 0) = false := by simp; omega
  have hmp : 0 < m := by omega
  clear hn he
  go_enter Tryd.func66, Tryd.ntmps66
  go_wp2
  go_loop [0, 1, 7] (fun a k o => ∃ s j x : Nat, a = .int .i64 s ∧ k = .int .i64 j ∧ o = .int .i64 x ∧ s < m ∧ x < m ∧ j ≤ e ∧ Hid (x * s ^ j % m = n ^ e % m)) (fun _ k _ => (intOf k).toNat)
  case atStart => exact ⟨n % m, e, 1 % m, by go_num, rfl, by go_num, Nat.mod_lt _ hmp, Nat.mod_lt _ hmp, Nat.le_refl _, pw_start n e m⟩
  case round =>
    obtain ⟨s, j, x, rfl, rfl, rfl, hs, hx, hje, hp⟩ := hrel
    have b1 := mulI_bd hx hs (by omega)
    have b2 := mulI_bd hs hs (by omega)
    have b3 := mulI_nn x s
    have b4 := mulI_nn s s
    have ls := Nat.mod_lt (s * s) hmp
    have lx := Nat.mod_lt (x * s) hmp
    by_cases hj : 0 < j
    · have hj1 : (0 : Int) < (j : Int) := by omega
      by_cases ho : j % 2 = 1
      · have ho' : ((j : Int) % 2 == 1) = true := by simp; omega
        go_wp2
        go_round
        case rel => exact ⟨s * s % m, j / 2, x * s % m, by go_num, by go_num, by go_num, ls, lx, by omega, by show _ = _; rw [← hp.out, pw_odd ho]⟩
        case measure => simp [intOf]; omega
      · have ho' : ((j : Int) % 2 == 1) = false := by simp; omega
        go_wp2
        go_round
        case rel => exact ⟨s * s % m, j / 2, x, by go_num, by go_num, rfl, ls, hx, by omega, by show _ = _; rw [← hp.out, pw_even (by omega)]⟩
        case measure => simp [intOf]; omega
    · obtain rfl : j = 0 := by omega
      go_wp2
      go_ret
      exact ⟨ret_int (by rw [pw_nat, ← hp.out, Nat.pow_zero, Nat.mul_one, Nat.mod_eq_of_lt hx]), rfl⟩
theorem power_ (n e m : Int) (hn : 0 ≤ n) (he : 0 ≤ e) (he2 : e ≤ 1073741824) (hm1 : 1 ≤ m) (hm2 : m ≤ 1073741824) (w : World) :
    Calls Tryd.prog 64 #[.int .i64 n, .int .i64 e, .int .i64 m] w fun e' w' => e' = .returned (.int .i64 (pw n e m)) ∧ Below w.heap.size w w' := by
  obtain ⟨n, rfl⟩ := Int.eq_ofNat_of_zero_le hn
  obtain ⟨e, rfl⟩ := Int.eq_ofNat_of_zero_le he
  obtain ⟨m, rfl⟩ := Int.eq_ofNat_of_zero_le (a := m) (by omega)
  have hm0 : ((m : Int) == 0) = false := by simp; omega
  have hmp : 0 < m := by omega
  clear hn he
  go_enter Tryd.func64, Tryd.ntmps64
  go_wp2
  go_quiet (fail)
  go_wp2
  go_loop [1, 8, 9] (fun k o a => ∃ s j x : Nat, k = .int .i64 j ∧ o = .int .i64 x ∧ a = .int .i64 s ∧ s < m ∧ x < m ∧ j ≤ e ∧ Hid (x * s ^ j % m = n ^ e % m)) (fun k _ _ => (intOf k).toNat)
  case atStart => exact ⟨n % m, e, 1 % m, rfl, by go_num, by go_num, Nat.mod_lt _ hmp, Nat.mod_lt _ hmp, Nat.le_refl _, pw_start n e m⟩
  case round =>
    obtain ⟨s, j, x, rfl, rfl, rfl, hs, hx, hje, hp⟩ := hrel
    have b1 := mulI_bd hx hs (by omega)
    have b2 := mulI_bd hs hs (by omega)
    have b3 := mulI_nn x s
    have b4 := mulI_nn s s
    have ls := Nat.mod_lt (s * s) hmp
    have lx := Nat.mod_lt (x * s) hmp
    by_cases hj : 0 < j
    · have hj1 : (0 : Int) < (j : Int) := by omega
      by_cases ho : j % 2 = 1
      · have ho' : ((j : Int) % 2 == 1) = true := by simp; omega
        go_wp2
        go_round
        case rel => exact ⟨s * s % m, j / 2, x * s % m, by go_num, by go_num, by go_num, ls, lx, by omega, by show _ = _; rw [← hp.out, pw_odd ho]⟩
        case measure => simp [intOf]; omega
      · have ho' : ((j : Int) % 2 == 1) = false := by simp; omega
        go_wp2
        go_round
        case rel => exact ⟨s * s % m, j / 2, x, by go_num, rfl, by go_num, ls, hx, by omega, by show _ = _; rw [← hp.out, pw_even (by omega)]⟩
        case measure => simp [intOf]; omega
    · obtain rfl : j = 0 := by omega
      go_wp2
      go_ret
      exact ⟨ret_int (by rw [pw_nat, ← hp.out, Nat.pow_zero, Nat.mul_one, Nat.mod_eq_of_lt hx]), below_drewN ((Below.refl _ _).alloc (Nat.le_refl _) _) _⟩
end Go.Proofs.YtohfofecbdfkgaaDoor
