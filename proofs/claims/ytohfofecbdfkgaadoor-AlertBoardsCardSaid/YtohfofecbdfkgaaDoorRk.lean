/-
  The walks of the specification's function that makes keys.
-/
import Derived.Test.YtohfofecbdfkgaaDoorMk
namespace Go.Proofs.YtohfofecbdfkgaaDoor
open Go.RowKit Al

theorem rkey_cases {p q x : Int} (h : keyB p q x = false) :
    inB p 3 32749 = false ∨ (inB p 3 32749 = true ∧ inB q 3 32749 = false) ∨ (inB p 3 32749 = true ∧ inB q 3 32749 = true ∧ inB x 3 32749 = false) ∨
    (inB p 3 32749 = true ∧ inB x 3 32749 = true ∧ p = q) ∨ (inB p 3 32749 = true ∧ inB q 3 32749 = true ∧ inB x 3 32749 = true ∧ ¬ p = q ∧ primeB p = false) ∨
    (inB p 3 32749 = true ∧ inB q 3 32749 = true ∧ inB x 3 32749 = true ∧ ¬ p = q ∧ primeB p = true ∧ primeB q = false) ∨
    (inB p 3 32749 = true ∧ inB q 3 32749 = true ∧ inB x 3 32749 = true ∧ ¬ p = q ∧ primeB p = true ∧ primeB q = true ∧ (gcdI ((p - 1) * (q - 1)) x == 1) = false) := by
  unfold keyB at h
  have hp : inB p 3 32749 = false → primeB p = false := primeB_no
  have hq : inB q 3 32749 = false → primeB q = false := primeB_no
  by_cases h1 : primeB p = true <;> by_cases h2 : primeB q = true <;> by_cases h3 : p = q <;> by_cases h4 : inB x 3 32749 = true <;> by_cases h5 : inB p 3 32749 = true <;> by_cases h6 : inB q 3 32749 = true <;> simp_all
theorem gcd_pos {a b : Int} (ha : 0 < a) : 1 ≤ gcdI a b := by
  unfold gcdI
  have h1 := Nat.gcd_pos_of_pos_left b.toNat (show 0 < a.toNat by omega)
  omega

set_option maxHeartbeats 1000000 in
theorem rmakeKey_no (p q x : Int) (h : keyB p q x = false) (w : World) :
    Calls Tryd.prog 24 #[.int .i64 p, .int .i64 q, .int .i64 x] w fun e w' => e = keyRet 0 0 0 100 ∧ Below w.heap.size w w' := by
  rcases rkey_cases h with hp | ⟨hp, hq⟩ | ⟨hp, hq, hx⟩ | ⟨hp, hx, rfl⟩ | ⟨hp, hq, hx, hne, h1⟩ | ⟨hp, hq, hx, hne, h1, h2⟩ | ⟨hp, hq, hx, hne, h1, h2, hg⟩
  · have Hp := Lib.hid hp
    clear h hp
    go_enter Tryd.func24, Tryd.ntmps24
    go_wp2_with (go_at_call 44; refine (In_ _ _ _ _).mono ?_; rintro e w' ⟨rfl, rfl⟩; rw [Hp.out])
    exact bodyPost_ret (v := .tuple #[.agg #[.int .i64 0, .int .i64 0], .int .i64 0, .int .i64 100]) (by simp [results, Tryd.results24, go_sem]) rfl ⟨rfl, (by repeat (first | exact Below.refl _ _ | assumption | refine below_drewN ?_ _ | refine Below.drew ?_ | refine Below.setCell ?_ (by first | omega | (simp; done) | (simp; omega)) _ | refine Below.alloc ?_ (by first | omega | (simp; done) | (simp; omega)) _))⟩
  · have Hp := Lib.hid hp
    have Hq := Lib.hid hq
    clear h hp hq
    go_enter Tryd.func24, Tryd.ntmps24
    go_wp2_with (go_at_call 44; refine (In_ _ _ _ _).mono ?_; rintro e w' ⟨rfl, rfl⟩; first | rw [Hp.out] | rw [Hq.out])
    exact bodyPost_ret (v := .tuple #[.agg #[.int .i64 0, .int .i64 0], .int .i64 0, .int .i64 100]) (by simp [results, Tryd.results24, go_sem]) rfl ⟨rfl, (by repeat (first | exact Below.refl _ _ | assumption | refine below_drewN ?_ _ | refine Below.drew ?_ | refine Below.setCell ?_ (by first | omega | (simp; done) | (simp; omega)) _ | refine Below.alloc ?_ (by first | omega | (simp; done) | (simp; omega)) _))⟩
  · have Hp := Lib.hid hp
    have Hq := Lib.hid hq
    have Hx := Lib.hid hx
    clear h hp hq hx
    go_enter Tryd.func24, Tryd.ntmps24
    go_wp2_with (go_at_call 44; refine (In_ _ _ _ _).mono ?_; rintro e w' ⟨rfl, rfl⟩; first | rw [Hp.out] | rw [Hq.out] | rw [Hx.out])
    exact bodyPost_ret (v := .tuple #[.agg #[.int .i64 0, .int .i64 0], .int .i64 0, .int .i64 100]) (by simp [results, Tryd.results24, go_sem]) rfl ⟨rfl, (by repeat (first | exact Below.refl _ _ | assumption | refine below_drewN ?_ _ | refine Below.drew ?_ | refine Below.setCell ?_ (by first | omega | (simp; done) | (simp; omega)) _ | refine Below.alloc ?_ (by first | omega | (simp; done) | (simp; omega)) _))⟩
  · have Hp := Lib.hid hp
    have Hx := Lib.hid hx
    clear h hp hx
    go_enter Tryd.func24, Tryd.ntmps24
    go_wp2_with (go_at_call 44; refine (In_ _ _ _ _).mono ?_; rintro e w' ⟨rfl, rfl⟩; first | rw [Hp.out] | rw [Hx.out])
    exact bodyPost_ret (v := .tuple #[.agg #[.int .i64 0, .int .i64 0], .int .i64 0, .int .i64 100]) (by simp [results, Tryd.results24, go_sem]) rfl ⟨rfl, (by repeat (first | exact Below.refl _ _ | assumption | refine below_drewN ?_ _ | refine Below.drew ?_ | refine Below.setCell ?_ (by first | omega | (simp; done) | (simp; omega)) _ | refine Below.alloc ?_ (by first | omega | (simp; done) | (simp; omega)) _))⟩
  · have Hp := Lib.hid hp
    have Hq := Lib.hid hq
    have Hx := Lib.hid hx
    have H1 := Lib.hid h1
    have hne' : (p == q) = false := by simpa using hne
    clear h hp hq hx h1
    go_enter Tryd.func24, Tryd.ntmps24
    go_wp2_with (first
      | (go_at_call 44; refine (In_ _ _ _ _).mono ?_; rintro e w' ⟨rfl, rfl⟩; first | rw [Hp.out] | rw [Hq.out] | rw [Hx.out])
      | (go_at_call 61; refine (rprime_ _ Hp.out _).mono ?_; rintro e w' ⟨rfl, rfl⟩; rw [H1.out]))
    exact bodyPost_ret (v := .tuple #[.agg #[.int .i64 0, .int .i64 0], .int .i64 0, .int .i64 100]) (by simp [results, Tryd.results24, go_sem]) rfl ⟨rfl, (by repeat (first | exact Below.refl _ _ | assumption | refine below_drewN ?_ _ | refine Below.drew ?_ | refine Below.setCell ?_ (by first | omega | (simp; done) | (simp; omega)) _ | refine Below.alloc ?_ (by first | omega | (simp; done) | (simp; omega)) _))⟩
  · have Hp := Lib.hid hp
    have Hq := Lib.hid hq
    have Hx := Lib.hid hx
    have H1 := Lib.hid h1
    have H2 := Lib.hid h2
    have hne' : (p == q) = false := by simpa using hne
    clear h hp hq hx h1 h2
    go_enter Tryd.func24, Tryd.ntmps24
    go_wp2_with (first
      | (go_at_call 44; refine (In_ _ _ _ _).mono ?_; rintro e w' ⟨rfl, rfl⟩; first | rw [Hp.out] | rw [Hq.out] | rw [Hx.out])
      | (go_at_call_of 61 (Value.int IntKind.i64 p); refine (rprime_ _ Hp.out _).mono ?_; rintro e w' ⟨rfl, rfl⟩; rw [H1.out])
      | (go_at_call_of 61 (Value.int IntKind.i64 q); refine (rprime_ _ Hq.out _).mono ?_; rintro e w' ⟨rfl, rfl⟩; rw [H2.out]))
    exact bodyPost_ret (v := .tuple #[.agg #[.int .i64 0, .int .i64 0], .int .i64 0, .int .i64 100]) (by simp [results, Tryd.results24, go_sem]) rfl ⟨rfl, (by repeat (first | exact Below.refl _ _ | assumption | refine below_drewN ?_ _ | refine Below.drew ?_ | refine Below.setCell ?_ (by first | omega | (simp; done) | (simp; omega)) _ | refine Below.alloc ?_ (by first | omega | (simp; done) | (simp; omega)) _))⟩
  · have Hp := Lib.hid hp
    have Hq := Lib.hid hq
    have Hx := Lib.hid hx
    have H1 := Lib.hid h1
    have H2 := Lib.hid h2
    have Hg := Lib.hid hg
    have hne' : (p == q) = false := by simpa using hne
    have bp := inB_true.1 hp
    have bq := inB_true.1 hq
    have bx := inB_true.1 hx
    have bm := phi_in bp bq
    have b0 : 1 < gcdI ((p - 1) * (q - 1)) x := by
      have := gcd_pos (a := (p - 1) * (q - 1)) (b := x) (by omega)
      have := beq_eq_false_iff_ne.1 hg
      omega
    clear h hp hq hx h1 h2 hg
    go_enter Tryd.func24, Tryd.ntmps24
    go_wp2_with (first
      | (go_at_call 44; refine (In_ _ _ _ _).mono ?_; rintro e w' ⟨rfl, rfl⟩; first | rw [Hp.out] | rw [Hq.out] | rw [Hx.out])
      | (go_at_call_of 61 (Value.int IntKind.i64 p); refine (rprime_ _ Hp.out _).mono ?_; rintro e w' ⟨rfl, rfl⟩; rw [H1.out])
      | (go_at_call_of 61 (Value.int IntKind.i64 q); refine (rprime_ _ Hq.out _).mono ?_; rintro e w' ⟨rfl, rfl⟩; rw [H2.out])
      | (go_at_call 62; refine (gcd_ _ _ (by omega) (by omega) _).mono ?_; rintro e w' ⟨rfl, n, rfl⟩))
    exact bodyPost_ret (v := .tuple #[.agg #[.int .i64 0, .int .i64 0], .int .i64 0, .int .i64 100]) (by simp [results, Tryd.results24, go_sem]) rfl ⟨rfl, (by repeat (first | exact Below.refl _ _ | assumption | refine below_drewN ?_ _ | refine Below.drew ?_ | refine Below.setCell ?_ (by first | omega | (simp; done) | (simp; omega)) _ | refine Below.alloc ?_ (by first | omega | (simp; done) | (simp; omega)) _))⟩

theorem lcm_ref {p q : Int} (hp : 3 ≤ p ∧ p ≤ 32749) (hq : 3 ≤ q ∧ q ≤ 32749) : (p - 1) * (q - 1) / gcdI (p - 1) (q - 1) = lcmI p q := by
  have hg := gcd_pq hp.1 hq.1
  unfold lcmI
  have hd : gcdI (p - 1) (q - 1) ∣ p - 1 := by
    obtain ⟨a, ha⟩ := Int.eq_ofNat_of_zero_le (a := p - 1) (by omega)
    obtain ⟨b, hb⟩ := Int.eq_ofNat_of_zero_le (a := q - 1) (by omega)
    rw [ha, hb, gcdI_nat]
    exact Int.natCast_dvd_natCast.2 (Nat.gcd_dvd_left _ _)
  rw [Int.mul_comm (p - 1), Int.mul_ediv_assoc _ hd, Int.mul_comm]

set_option maxHeartbeats 2000000 in
theorem rmakeKey_yes (p q x : Int) (h : keyB p q x = true) (w : World) :
    Calls Tryd.prog 24 #[.int .i64 p, .int .i64 q, .int .i64 x] w fun e w' => e = keyRet (p * q) x (secretI (lcmI p q) x) 0 ∧ Below w.heap.size w w' := by
  obtain ⟨h1, h2, hne, hx, hg⟩ := key_yes h
  have hne' : (p == q) = false := by simpa using hne
  have bp := primeB_in h1
  have bq := primeB_in h2
  have bx := inB_true.1 hx
  have bm := phi_in bp bq
  have bg := gcd_pq bp.1 bq.1
  have bL := lcmI_in bp bq bg.1 bg.2
  have bpq := pq_in bp bq
  have gL := lcm_gcd bp bq bx.1 hg
  have hg' : ¬ 1 < gcdI ((p - 1) * (q - 1)) x := by omega
  have Hp := Lib.hid (inB_mk bp)
  have Hq := Lib.hid (inB_mk bq)
  have H1 := Lib.hid h1
  have H2 := Lib.hid h2
  have Hx := Lib.hid hx
  have HL := Lib.hid gL
  have HD := Lib.hid (lcm_ref bp bq)
  have q1 : 0 ≤ (p - 1) * (q - 1) / gcdI (p - 1) (q - 1) := by rw [HD.out]; omega
  have q2 : (p - 1) * (q - 1) / gcdI (p - 1) (q - 1) ≤ 1072431504 := by rw [HD.out]; omega
  obtain ⟨K, hK1, hK2⟩ := multiple (L := lcmI p q) (by omega) (by omega) gL
  have HK := Lib.hid hK2
  clear h h1 h2 hx hg gL hK2
  go_enter Tryd.func24, Tryd.ntmps24
  go_wp2_with (first
    | (go_at_call 44; refine (In_ _ _ _ _).mono ?_; rintro e w' ⟨rfl, rfl⟩; first | rw [Hp.out] | rw [Hq.out] | rw [Hx.out])
    | (go_at_call_of 61 (Value.int IntKind.i64 p); refine (rprime_ _ Hp.out _).mono ?_; rintro e w' ⟨rfl, rfl⟩; rw [H1.out])
    | (go_at_call_of 61 (Value.int IntKind.i64 q); refine (rprime_ _ Hq.out _).mono ?_; rintro e w' ⟨rfl, rfl⟩; rw [H2.out])
    | (go_at_call 62; refine (gcd_ _ _ (by omega) (by omega) _).mono ?_; rintro e w' ⟨rfl, n, rfl⟩))
  rw [HD.out]
  clear q1 q2 hg'
  go_loop [10] (fun v => ∃ k : Nat, v = .int .i64 (1 + k * lcmI p q) ∧ k ≤ K) (fun v => (1 + K * lcmI p q - intOf v).toNat)
  case atStart => exact ⟨0, by simp, by omega⟩
  case round =>
    obtain ⟨k, rfl, hk⟩ := hrel
    have b1 := Int.mul_nonneg (Int.natCast_nonneg k) (show 0 ≤ lcmI p q by omega)
    have b2 := Int.mul_le_mul_of_nonneg_right (show (k : Int) ≤ 32749 by omega) (show 0 ≤ lcmI p q by omega)
    have b3 : (32749 : Int) * lcmI p q ≤ 35121059325696 := by omega
    have b4 := Int.mul_le_mul_of_nonneg_right (show (k : Int) ≤ K by omega) (show 0 ≤ lcmI p q by omega)
    by_cases hz : (1 + k * lcmI p q) % x = 0
    · have hS := Lib.hid (sec_search (show 1 ≤ lcmI p q by omega) (show 1 ≤ x by omega) (show (k : Int) < x by omega) hz)
      have hz' : ((1 + k * lcmI p q) % x != 0) = false := by simp [hz]
      have hq0 : 0 ≤ (1 + k * lcmI p q) / x := Int.ediv_nonneg (by omega) (by omega)
      have hq1 : (1 + k * lcmI p q) / x ≤ (1 + k * lcmI p q) := Int.ediv_le_self _ (by omega)
      clear hz
      go_wp2
      go_region
      all_goals
        go_wp2
        exact bodyPost_ret (v := .tuple #[.agg #[.int .i64 (p * q), .int .i64 x], .int .i64 ((1 + k * lcmI p q) / x), .int .i64 0]) (by simp [results, Tryd.results24, go_sem]) rfl ⟨by rw [secretI_eq hS.out]; rfl, (by repeat (first | exact Below.refl _ _ | assumption | refine below_drewN ?_ _ | refine Below.drew ?_ | refine Below.setCell ?_ (by first | omega | (simp; done) | (simp; omega)) _ | refine Below.alloc ?_ (by first | omega | (simp; done) | (simp; omega)) _))⟩
    · have hz' : ((1 + k * lcmI p q) % x != 0) = true := by simp [hz]
      have hlt : k < K := by
        by_cases hkK : k = K
        · subst hkK; exact absurd HK.out hz
        · omega
      have b5 := Int.mul_le_mul_of_nonneg_right (show (k : Int) + 1 ≤ K by omega) (show 0 ≤ lcmI p q by omega)
      rw [Int.add_mul, Int.one_mul] at b5
      clear hz
      go_wp2
      go_round
      case rel => exact ⟨k + 1, by rw [Int.natCast_add, Int.add_mul]; congr 1; simp; omega, by omega⟩
      case measure => simp [intOf]; omega
end Go.Proofs.YtohfofecbdfkgaaDoor
