/-
  The walks of the small functions on numbers: 'within', 'In', 'plausible'.
-/
import Derived.Test.YtohfofecbdfkgaaDoorProg
import Derived.Test.YtohfofecbdfkgaaDoorPl
import Derived.WalkKit
import Derived.WalkSpells
import Derived.Deep.QuietTactic
import Derived.BigQuiet
import Derived.KernelRfl
import Derived.Lib.Hide
import Derived.LoopTactic
import Derived.Deep.RegionWith
namespace Go.Proofs.YtohfofecbdfkgaaDoor
open Go.RowKit Al

theorem ret_bool {a b : Bool} (h : a = b) : Ending.returned (.bool a) = .returned (.bool b) := by rw [h]
theorem ret_int {k : IntKind} {a b : Int} (h : a = b) : Ending.returned (.int k a) = .returned (.int k b) := by rw [h]

theorem within_ (n lo hi : Int) (w : World) :
    Calls Tryd.prog 59 #[.int .i64 n, .int .i64 lo, .int .i64 hi] w fun e w' => e = .returned (.bool (inB n lo hi)) ∧ w = w' := by
  go_enter Tryd.func59, Tryd.ntmps59
  go_wp2
  all_goals go_ret
  all_goals exact ⟨ret_bool (by rw [inB_eq]; simp; try omega), rfl⟩
theorem In_ (n lo hi : Int) (w : World) :
    Calls Tryd.prog 44 #[.int .i64 n, .int .i64 lo, .int .i64 hi] w fun e w' => e = .returned (.bool (inB n lo hi)) ∧ w = w' := by
  go_enter Tryd.func44, Tryd.ntmps44
  go_wp2
  all_goals go_ret
  all_goals exact ⟨ret_bool (by rw [inB_eq]; simp; try omega), rfl⟩
theorem In_is (n lo hi : Int) (b : Bool) (h : inB n lo hi = b) (w : World) :
    Calls Tryd.prog 44 #[.int .i64 n, .int .i64 lo, .int .i64 hi] w fun e w' => e = .returned (.bool b) ∧ w = w' := h ▸ In_ n lo hi w
theorem within_is (n lo hi : Int) (b : Bool) (h : inB n lo hi = b) (w : World) :
    Calls Tryd.prog 59 #[.int .i64 n, .int .i64 lo, .int .i64 hi] w fun e w' => e = .returned (.bool b) ∧ w = w' := h ▸ within_ n lo hi w
theorem swithin_ (n lo hi : Int) (w : World) :
    Calls Tryd.prog 103 #[.int .i64 n, .int .i64 lo, .int .i64 hi] w fun e w' => e = .returned (.bool (inB n lo hi)) ∧ w = w' := by
  go_enter Tryd.func103, Tryd.ntmps103
  go_wp2
  all_goals go_ret
  all_goals exact ⟨ret_bool (by rw [inB_eq]; simp; try omega), rfl⟩

theorem plausible_ (m e : Int) (w : World) :
    Calls Tryd.prog 63 #[.agg #[.int .i64 m, .int .i64 e]] w fun e' w' => e' = .returned (.bool (plaus m e)) ∧ Below w.heap.size w w' := by
  go_enter Tryd.func63, Tryd.ntmps63
  go_wp2_with (go_at_call 59; refine (within_ _ _ _ _).mono ?_; rintro e w' ⟨rfl, rfl⟩)
  all_goals go_ret
  all_goals exact ⟨ret_bool (by simp [plaus, *]), (Below.refl _ _).alloc (Nat.le_refl _) _⟩

theorem prime_ (n : Int) (w : World) :
    Calls Tryd.prog 58 #[.int .i64 n] w fun e w' => e = .returned (.bool (primeB n)) ∧ w = w' := by
  by_cases hn : inB n 3 32749 = true
  · have hb := inB_true.1 hn
    obtain ⟨m, rfl⟩ := Int.eq_ofNat_of_zero_le (a := n) (by omega)
    have Hn := Lib.hid hn
    clear hn
    go_enter Tryd.func58, Tryd.ntmps58
    go_wp2_with (go_at_call 59; refine (within_ _ _ _ _).mono ?_; rintro e w' ⟨rfl, rfl⟩; rw [Hn.out])
    go_loop [3] (fun d => ∃ k : Nat, 2 ≤ k ∧ k ≤ m ∧ d = .int .i64 k ∧ Hid (noDiv m (m + 2 - k) k = primeB m)) (fun d => (32750 - intOf d).toNat)
    case atStart => exact ⟨2, by omega, by omega, rfl, primeB_yes Hn.out⟩
    case round =>
      obtain ⟨k, hk2, hkm, rfl, hp⟩ := hrel
      have hsq' := sqI_le k (by omega)
      have hsq0 := sqI_nonneg k
      obtain ⟨f, hf⟩ : ∃ f, m + 2 - k = f + 1 := ⟨m + 1 - k, by omega⟩
      by_cases hc : k * k ≤ m
      · have hc' := sqI_le_iff.2 hc
        by_cases hm : m % k = 0
        · have hm' : ((m : Int) % k == 0) = true := by simp; omega
          have Hf := Lib.hid hf
          clear hf
          go_wp2
          go_ret
          exact ⟨ret_bool (by rw [← hp.out, Hf.out, noDiv_hit hc hm]), rfl⟩
        · have hm' : ((m : Int) % k == 0) = false := by simp; omega
          have hlt := sq_lt hc hk2
          have Hf := Lib.hid hf
          clear hf
          go_wp2
          go_round
          case rel => exact ⟨k + 1, by omega, by omega, by go_num, by show _ = _; rw [← hp.out, Hf.out, noDiv_step hc hm]; congr 1; have := Hf.out; omega⟩
          case measure => simp [intOf]; omega
      · have hc' := fun h => hc (sqI_le_iff.1 h)
        go_wp2
        go_ret
        exact ⟨ret_bool (by rw [← hp.out, noDiv_end (by omega)]), rfl⟩
  · have hn' : inB n 3 32749 = false := by simpa using hn
    have Hn := Lib.hid hn'
    clear hn hn'
    go_enter Tryd.func58, Tryd.ntmps58
    go_wp2_with (go_at_call 59; refine (within_ _ _ _ _).mono ?_; rintro e w' ⟨rfl, rfl⟩; rw [Hn.out])
    go_ret
    exact ⟨ret_bool (primeB_no Hn.out).symm, rfl⟩

theorem rprime_ (n : Int) (hn : inB n 3 32749 = true) (w : World) :
    Calls Tryd.prog 61 #[.int .i64 n] w fun e w' => e = .returned (.bool (primeB n)) ∧ w = w' := by
  have hb := inB_true.1 hn
  obtain ⟨m, rfl⟩ := Int.eq_ofNat_of_zero_le (a := n) (by omega)
  have Hn := Lib.hid hn
  clear hn
  go_enter Tryd.func61, Tryd.ntmps61
  go_wp2
  go_loop [3] (fun d => ∃ k : Nat, 2 ≤ k ∧ k ≤ m ∧ d = .int .i64 k ∧ Hid (noDiv m (m + 2 - k) k = primeB m)) (fun d => (32750 - intOf d).toNat)
  case atStart => exact ⟨2, by omega, by omega, rfl, primeB_yes Hn.out⟩
  case round =>
    obtain ⟨k, hk2, hkm, rfl, hp⟩ := hrel
    have hsq' := sqI_le k (by omega)
    have hsq0 := sqI_nonneg k
    obtain ⟨f, hf⟩ : ∃ f, m + 2 - k = f + 1 := ⟨m + 1 - k, by omega⟩
    by_cases hc : k * k ≤ m
    · have hc' := sqI_le_iff.2 hc
      by_cases hm : m % k = 0
      · have hm' : ((m : Int) % k == 0) = true := by simp; omega
        have Hf := Lib.hid hf
        clear hf
        go_wp2
        go_ret
        exact ⟨ret_bool (by rw [← hp.out, Hf.out, noDiv_hit hc hm]), rfl⟩
      · have hm' : ((m : Int) % k == 0) = false := by simp; omega
        have hlt := sq_lt hc hk2
        have Hf := Lib.hid hf
        clear hf
        go_wp2
        go_round
        case rel => exact ⟨k + 1, by omega, by omega, by go_num, by show _ = _; rw [← hp.out, Hf.out, noDiv_step hc hm]; congr 1; have := Hf.out; omega⟩
        case measure => simp [intOf]; omega
    · have hc' := fun h => hc (sqI_le_iff.1 h)
      have h1 : (1 : Int) < (m : Int) := by omega
      go_wp2
      go_ret
      exact ⟨ret_bool (by rw [← hp.out, noDiv_end (by omega)]), rfl⟩

/-- The greatest common divisor, by the steps of Euclid. -/
theorem common_ (a b : Int) (ha : 0 ≤ a) (hb : 0 ≤ b) (w : World) :
    Calls Tryd.prog 60 #[.int .i64 a, .int .i64 b] w fun e w' => e = .returned (.int .i64 (gcdI a b)) ∧ ∃ n, w' = w.drewN n := by
  obtain ⟨a, rfl⟩ := Int.eq_ofNat_of_zero_le ha
  obtain ⟨b, rfl⟩ := Int.eq_ofNat_of_zero_le hb
  clear ha hb
  go_enter Tryd.func60, Tryd.ntmps60
  go_wp2
  go_loopw [0, 1] (fun x y wr => ∃ c d : Nat, x = .int .i64 c ∧ y = .int .i64 d ∧ Hid (Nat.gcd c d = Nat.gcd a b) ∧ ∃ n, wr = w.drewN n) (fun _ y _ => (intOf y).toNat)
  case atStart => exact ⟨a, b, rfl, rfl, rfl, 0, rfl⟩
  case round =>
    obtain ⟨c, d, rfl, rfl, hg, n, rfl⟩ := hrel
    by_cases hd : 0 < d
    · have hd0 : ((d : Int) == 0) = false := by simp; omega
      have hd1 : (0 : Int) < (d : Int) := by omega
      have hlt := Nat.mod_lt c hd
      go_wp2
      go_quiet (fail)
      go_wp2
      go_roundw
      case rel => exact ⟨d, c % d, rfl, by go_num, by show _ = _; rw [← hg.out, gcdI_step], _, World.drewN_drewN _ _ _⟩
      case measure => simp [intOf]; omega
    · obtain rfl : d = 0 := by omega
      go_wp2
      go_ret
      exact ⟨ret_int (by rw [gcdI_nat, ← hg.out]; simp), n, rfl⟩

/-- The greatest common divisor, by the steps of Euclid. -/
theorem gcd_ (a b : Int) (ha : 0 ≤ a) (hb : 0 ≤ b) (w : World) :
    Calls Tryd.prog 62 #[.int .i64 a, .int .i64 b] w fun e w' => e = .returned (.int .i64 (gcdI a b)) ∧ ∃ n, w' = w.drewN n := by
  obtain ⟨a, rfl⟩ := Int.eq_ofNat_of_zero_le ha
  obtain ⟨b, rfl⟩ := Int.eq_ofNat_of_zero_le hb
  clear ha hb
  go_enter Tryd.func62, Tryd.ntmps62
  go_wp2
  go_loopw [0, 1] (fun x y wr => ∃ c d : Nat, x = .int .i64 c ∧ y = .int .i64 d ∧ Hid (Nat.gcd c d = Nat.gcd a b) ∧ ∃ n, wr = w.drewN n) (fun _ y _ => (intOf y).toNat)
  case atStart => exact ⟨a, b, rfl, rfl, rfl, 0, rfl⟩
  case round =>
    obtain ⟨c, d, rfl, rfl, hg, n, rfl⟩ := hrel
    by_cases hd : 0 < d
    · have hd0 : ((d : Int) == 0) = false := by simp; omega
      have hd1 : (0 : Int) < (d : Int) := by omega
      have hlt := Nat.mod_lt c hd
      go_wp2
      go_quiet (fail)
      go_wp2
      go_roundw
      case rel => exact ⟨d, c % d, rfl, by go_num, by show _ = _; rw [← hg.out, gcdI_step], _, World.drewN_drewN _ _ _⟩
      case measure => simp [intOf]; omega
    · obtain rfl : d = 0 := by omega
      go_wp2
      go_ret
      exact ⟨ret_int (by rw [gcdI_nat, ← hg.out]; simp), n, rfl⟩

end Go.Proofs.YtohfofecbdfkgaaDoor
