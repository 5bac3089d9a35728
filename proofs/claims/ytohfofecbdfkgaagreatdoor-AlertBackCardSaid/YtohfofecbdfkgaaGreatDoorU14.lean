/-
  The walks of the two functions that make keys.
-/
import Derived.Test.YtohfofecbdfkgaaGreatDoorU01
import Derived.Test.YtohfofecbdfkgaaGreatDoorU13
import Derived.WalkSmall
import Derived.Laws.ResultCell
namespace Go.Proofs.YtohfofecbdfkgaaGreatDoor
open Go.RowKit Al

/-- What MakeKey hands back. -/
def keyRet (m e s c : Int) : Ending := .returned (.tuple #[.agg #[.int .i64 m, .int .i64 e], .int .i64 s, .int .i64 c])

theorem key_cases {p q x : Int} (h : keyB p q x = false) :
    primeB p = false ∨ (primeB p = true ∧ primeB q = false) ∨ (primeB p = true ∧ p = q) ∨ (primeB p = true ∧ primeB q = true ∧ ¬ p = q ∧ inB x 3 32749 = false) ∨
    (primeB p = true ∧ primeB q = true ∧ ¬ p = q ∧ inB x 3 32749 = true ∧ (gcdI ((p - 1) * (q - 1)) x == 1) = false) := by
  unfold keyB at h
  by_cases h1 : primeB p = true <;> by_cases h2 : primeB q = true <;> by_cases h3 : p = q <;> by_cases h4 : inB x 3 32749 = true <;> simp_all
theorem key_yes {p q x : Int} (h : keyB p q x = true) :
    primeB p = true ∧ primeB q = true ∧ ¬ p = q ∧ inB x 3 32749 = true ∧ gcdI ((p - 1) * (q - 1)) x = 1 := by
  unfold keyB at h
  simp only [Bool.and_eq_true, Bool.not_eq_true', beq_eq_false_iff_ne, beq_iff_eq] at h
  exact ⟨h.1.1.1.1, h.1.1.1.2, h.1.1.2, h.1.2, h.2⟩
theorem primeB_in {p : Int} (h : primeB p = true) : 3 ≤ p ∧ p ≤ 32749 := by
  unfold primeB at h
  simp only [Bool.and_eq_true] at h
  exact inB_true.1 h.1
theorem phi_in {p q : Int} (hp : 3 ≤ p ∧ p ≤ 32749) (hq : 3 ≤ q ∧ q ≤ 32749) : 4 ≤ (p - 1) * (q - 1) ∧ (p - 1) * (q - 1) ≤ 1072431504 := by
  have h1 := Int.mul_le_mul_of_nonneg_right (show 2 ≤ p - 1 by omega) (show 0 ≤ q - 1 by omega)
  have h2 := Int.mul_le_mul_of_nonneg_right (show p - 1 ≤ 32748 by omega) (show 0 ≤ q - 1 by omega)
  omega

set_option maxHeartbeats 1000000 in
theorem makeKey_no (p q x : Int) (h : keyB p q x = false) (w : World) :
    Calls Tryz.prog 14 #[.int .i64 p, .int .i64 q, .int .i64 x] w fun e w' => e = keyRet 0 0 0 100 ∧ Below w.heap.size w w' := by
  rcases key_cases h with hp | ⟨hp, hq⟩ | ⟨hp, rfl⟩ | ⟨hp, hq, hne, hx⟩ | ⟨hp, hq, hne, hx, hg⟩
  · have Hp := Lib.hid hp
    clear h hp
    go_enter Tryz.func14, Tryz.ntmps14
    go_wp2_with (go_at_call 49; refine (prime_ _ _).mono ?_; rintro e w' ⟨rfl, rfl⟩; rw [Hp.out])
    exact bodyPost_ret (v := .tuple #[.agg #[.int .i64 0, .int .i64 0], .int .i64 0, .int .i64 100]) (by simp [results, Tryz.results14, go_sem]) rfl ⟨rfl, (by repeat (first | exact Below.refl _ _ | assumption | refine below_drewN ?_ _ | refine Below.drew ?_ | refine Below.setCell ?_ (by first | omega | (simp; done) | (simp; omega)) _ | refine Below.alloc ?_ (by first | omega | (simp; done) | (simp; omega)) _))⟩
  · have Hp := Lib.hid hp
    have Hq := Lib.hid hq
    clear h hp hq
    go_enter Tryz.func14, Tryz.ntmps14
    go_wp2_with (go_at_call 49; refine (prime_ _ _).mono ?_; rintro e w' ⟨rfl, rfl⟩; first | rw [Hp.out] | rw [Hq.out])
    exact bodyPost_ret (v := .tuple #[.agg #[.int .i64 0, .int .i64 0], .int .i64 0, .int .i64 100]) (by simp [results, Tryz.results14, go_sem]) rfl ⟨rfl, (by repeat (first | exact Below.refl _ _ | assumption | refine below_drewN ?_ _ | refine Below.drew ?_ | refine Below.setCell ?_ (by first | omega | (simp; done) | (simp; omega)) _ | refine Below.alloc ?_ (by first | omega | (simp; done) | (simp; omega)) _))⟩
  · have Hp := Lib.hid hp
    clear h hp
    go_enter Tryz.func14, Tryz.ntmps14
    go_wp2_with (go_at_call 49; refine (prime_ _ _).mono ?_; rintro e w' ⟨rfl, rfl⟩; rw [Hp.out])
    exact bodyPost_ret (v := .tuple #[.agg #[.int .i64 0, .int .i64 0], .int .i64 0, .int .i64 100]) (by simp [results, Tryz.results14, go_sem]) rfl ⟨rfl, (by repeat (first | exact Below.refl _ _ | assumption | refine below_drewN ?_ _ | refine Below.drew ?_ | refine Below.setCell ?_ (by first | omega | (simp; done) | (simp; omega)) _ | refine Below.alloc ?_ (by first | omega | (simp; done) | (simp; omega)) _))⟩
  · have Hp := Lib.hid hp
    have Hq := Lib.hid hq
    have Hx := Lib.hid hx
    have hne' : (p == q) = false := by simpa using hne
    clear h hp hq hx
    go_enter Tryz.func14, Tryz.ntmps14
    go_wp2_with (first
      | (go_at_call 49; refine (prime_ _ _).mono ?_; rintro e w' ⟨rfl, rfl⟩; first | rw [Hp.out] | rw [Hq.out])
      | (go_at_call 50; refine (within_ _ _ _ _).mono ?_; rintro e w' ⟨rfl, rfl⟩; rw [Hx.out]))
    exact bodyPost_ret (v := .tuple #[.agg #[.int .i64 0, .int .i64 0], .int .i64 0, .int .i64 100]) (by simp [results, Tryz.results14, go_sem]) rfl ⟨rfl, (by repeat (first | exact Below.refl _ _ | assumption | refine below_drewN ?_ _ | refine Below.drew ?_ | refine Below.setCell ?_ (by first | omega | (simp; done) | (simp; omega)) _ | refine Below.alloc ?_ (by first | omega | (simp; done) | (simp; omega)) _))⟩
  · have Hp := Lib.hid hp
    have Hq := Lib.hid hq
    have Hx := Lib.hid hx
    have Hg := Lib.hid hg
    have hne' : (p == q) = false := by simpa using hne
    have bp := primeB_in hp
    have bq := primeB_in hq
    have bx := inB_true.1 hx
    have bm := phi_in bp bq
    clear h hp hq hx hg
    go_enter Tryz.func14, Tryz.ntmps14
    go_wp2_with (first
      | (go_at_call 49; refine (prime_ _ _).mono ?_; rintro e w' ⟨rfl, rfl⟩; first | rw [Hp.out] | rw [Hq.out])
      | (go_at_call 50; refine (within_ _ _ _ _).mono ?_; rintro e w' ⟨rfl, rfl⟩; rw [Hx.out])
      | (go_at_call 51; refine (common_ _ _ (by omega) (by omega) _).mono ?_; rintro e w' ⟨rfl, n, rfl⟩; have hg' : (gcdI ((p - 1) * (q - 1)) x != 1) = true := by (rw [bne, Hg.out]; rfl)))
    exact bodyPost_ret (v := .tuple #[.agg #[.int .i64 0, .int .i64 0], .int .i64 0, .int .i64 100]) (by simp [results, Tryz.results14, go_sem]) rfl ⟨rfl, (by repeat (first | exact Below.refl _ _ | assumption | refine below_drewN ?_ _ | refine Below.drew ?_ | refine Below.setCell ?_ (by first | omega | (simp; done) | (simp; omega)) _ | refine Below.alloc ?_ (by first | omega | (simp; done) | (simp; omega)) _))⟩

/-- The multiple is at least 2, and small. -/
theorem lcmI_in {p q : Int} (hp : 3 ≤ p ∧ p ≤ 32749) (hq : 3 ≤ q ∧ q ≤ 32749) (hg1 : 1 ≤ gcdI (p - 1) (q - 1)) (hg2 : gcdI (p - 1) (q - 1) ≤ p - 1) : 2 ≤ lcmI p q ∧ lcmI p q ≤ 1072431504 := by
  have hm := phi_in hp hq
  unfold lcmI
  generalize gcdI (p - 1) (q - 1) = g at *
  have h1 : 1 ≤ (p - 1) / g := by
    rw [Int.le_ediv_iff_mul_le (by omega)]; omega
  have h2 : (p - 1) / g ≤ p - 1 := Int.ediv_le_self _ (by omega)
  have h3 := Int.mul_le_mul_of_nonneg_right h1 (show 0 ≤ q - 1 by omega)
  have h4 := Int.mul_le_mul_of_nonneg_right h2 (show 0 ≤ q - 1 by omega)
  omega
theorem gcd_pq {p q : Int} (hp : 3 ≤ p) (_hq : 3 ≤ q) : 1 ≤ gcdI (p - 1) (q - 1) ∧ gcdI (p - 1) (q - 1) ≤ p - 1 := by
  unfold gcdI
  have h1 := Nat.gcd_pos_of_pos_left (q - 1).toNat (show 0 < (p - 1).toNat by omega)
  have h2 := Nat.gcd_le_left (q - 1).toNat (show 0 < (p - 1).toNat by omega)
  omega
theorem gcd_dvd {a b d : Int} (ha : 0 ≤ a) (hb : 0 ≤ b) (h : b ∣ a) (hd : 0 ≤ d) (hg : gcdI a d = 1) : gcdI b d = 1 := by
  obtain ⟨a, rfl⟩ := Int.eq_ofNat_of_zero_le ha
  obtain ⟨b, rfl⟩ := Int.eq_ofNat_of_zero_le hb
  obtain ⟨d, rfl⟩ := Int.eq_ofNat_of_zero_le hd
  rw [gcdI_nat] at hg ⊢
  have h' : b ∣ a := Int.natCast_dvd_natCast.1 h
  have h1 : Nat.gcd b d ∣ Nat.gcd a d := Nat.dvd_gcd (Nat.dvd_trans (Nat.gcd_dvd_left _ _) h') (Nat.gcd_dvd_right _ _)
  have h2 : Nat.gcd a d = 1 := by omega
  rw [h2] at h1
  rw [Nat.eq_one_of_dvd_one h1]
  rfl
theorem lcm_gcd {p q x : Int} (hp : 3 ≤ p ∧ p ≤ 32749) (hq : 3 ≤ q ∧ q ≤ 32749) (hx : 3 ≤ x) (h : gcdI ((p - 1) * (q - 1)) x = 1) : gcdI (lcmI p q) x = 1 := by
  have hg := gcd_pq hp.1 hq.1
  refine gcd_dvd (by have := phi_in hp hq; omega) (by have := lcmI_in hp hq hg.1 hg.2; omega) ?_ (by omega) h
  unfold lcmI
  refine Int.mul_dvd_mul_right _ ?_
  have hd : gcdI (p - 1) (q - 1) ∣ p - 1 := by
    obtain ⟨a, ha⟩ := Int.eq_ofNat_of_zero_le (a := p - 1) (by omega)
    obtain ⟨b, hb⟩ := Int.eq_ofNat_of_zero_le (a := q - 1) (by omega)
    rw [ha, hb, gcdI_nat]
    exact Int.natCast_dvd_natCast.2 (Nat.gcd_dvd_left _ _)
  obtain ⟨c, hc⟩ := hd
  generalize gcdI (p - 1) (q - 1) = g at *
  have hg0 : g ≠ 0 := by omega
  exact ⟨g, by rw [hc, Int.mul_ediv_cancel_left _ hg0, Int.mul_comm]⟩

theorem pq_in {p q : Int} (hp : 3 ≤ p ∧ p ≤ 32749) (hq : 3 ≤ q ∧ q ≤ 32749) : 9 ≤ p * q ∧ p * q ≤ 1072497001 := by
  have h1 := Int.mul_le_mul_of_nonneg_right (show 3 ≤ p by omega) (show 0 ≤ q by omega)
  have h2 := Int.mul_le_mul_of_nonneg_right (show p ≤ 32749 by omega) (show 0 ≤ q by omega)
  omega

def EucRel (L x : Int) (va vb vx vy : Value) : Prop := ∃ a b u y : Int, va = .int .i64 a ∧ vb = .int .i64 b ∧ vx = .int .i64 u ∧ vy = .int .i64 y ∧ Hid (Euc L x a b u y)
set_option maxHeartbeats 2000000 in
theorem makeKey_yes (p q x : Int) (h : keyB p q x = true) (w : World) :
    Calls Tryz.prog 14 #[.int .i64 p, .int .i64 q, .int .i64 x] w fun e w' => e = keyRet (p * q) x (secretI (lcmI p q) x) 0 ∧ Below w.heap.size w w' := by
  obtain ⟨hp, hq, hne, hx, hg⟩ := key_yes h
  have hne' : (p == q) = false := by simpa using hne
  have bp := primeB_in hp
  have bq := primeB_in hq
  have bx := inB_true.1 hx
  have bm := phi_in bp bq
  have bg := gcd_pq bp.1 bq.1
  have bL := lcmI_in bp bq bg.1 bg.2
  have bpq := pq_in bp bq
  have gL := lcm_gcd bp bq bx.1 hg
  have hg' : (gcdI ((p - 1) * (q - 1)) x != 1) = false := by rw [bne, hg]; rfl
  have q1 : 1 ≤ (p - 1) / gcdI (p - 1) (q - 1) := by rw [Int.le_ediv_iff_mul_le (by omega)]; omega
  have q2 : (p - 1) / gcdI (p - 1) (q - 1) ≤ p - 1 := Int.ediv_le_self _ (by omega)
  have bL' := bL
  unfold lcmI at bL'
  have Hp := Lib.hid hp
  have Hq := Lib.hid hq
  have Hx := Lib.hid hx
  have HL := Lib.hid gL
  have HD : Hid (lcmI p q = (p - 1) / gcdI (p - 1) (q - 1) * (q - 1)) := rfl
  clear h hp hq hx hg gL
  go_enter Tryz.func14, Tryz.ntmps14
  go_wp2_with (first
    | (go_at_call 49; refine (prime_ _ _).mono ?_; rintro e w' ⟨rfl, rfl⟩; first | rw [Hp.out] | rw [Hq.out])
    | (go_at_call 50; refine (within_ _ _ _ _).mono ?_; rintro e w' ⟨rfl, rfl⟩; rw [Hx.out])
    | (go_at_call 51; refine (common_ _ _ (by omega) (by omega) _).mono ?_; rintro e w' ⟨rfl, n, rfl⟩))
  rw [← HD.out]
  clear bL' q1 q2
  go_quiet (fail)
  go_wp2
  go_loop [10, 11, 12, 13] (fun va vb vx vy => EucRel (lcmI p q) x va vb vx vy) (fun _ b _ _ => (intOf b).toNat)
  case atStart => exact ⟨_, _, _, _, rfl, rfl, rfl, rfl, Euc.start (by omega) (by omega)⟩
  case round =>
    obtain ⟨a, b, u, y, rfl, rfl, rfl, rfl, hE⟩ := hrel
    have e1 := hE.out.pos
    have e2 := hE.out.nn
    have e3 := hE.out.bx
    have e4 := hE.out.ba
    have e5 := hE.out.bb
    have e6 := hE.out.by_
    by_cases hb : 0 < b
    · obtain ⟨s1, s2, s3, s4, s5, s6, s7, s8⟩ := hE.out.small hb
      have hb0 : (b == 0) = false := by simp; omega
      go_wp2
      go_round
      case rel => exact ⟨_, _, _, _, ⟨_, _, _, _, rfl, rfl, rfl, rfl, hE.out.next hb⟩, rfl, rfl, rfl, rfl⟩
      case measure => simp [intOf]; omega
    · obtain rfl : b = 0 := by omega
      have HE := Lib.hid (sec_of bL.1 (hE.out.last HL.out))
      have HS : ∀ z, (if u.tmod (lcmI p q) < 1 then u.tmod (lcmI p q) + lcmI p q else u.tmod (lcmI p q)) = z → Ending.returned (.tuple #[.agg #[.int .i64 (p * q), .int .i64 x], .int .i64 z, .int .i64 0]) = keyRet (p * q) x (secretI (lcmI p q) x) 0 := by
        intro z hz
        rw [secretI_eq HE.out, hz]
        rfl
      have HS' := Lib.hid HS
      clear HS
      by_cases hu : 0 ≤ u
      · have r1 := Int.emod_nonneg u (show lcmI p q ≠ 0 by omega)
        have r2 := Int.emod_lt_of_pos u (show 0 < lcmI p q by omega)
        have ht := Int.tmod_eq_emod_of_nonneg (b := lcmI p q) hu
        have Ht := Lib.hid ht
        clear ht
        by_cases hs : u % lcmI p q < 1
        · go_wp2
          exact bodyPost_ret (v := .tuple #[.agg #[.int .i64 (p * q), .int .i64 x], .int .i64 (u % lcmI p q + lcmI p q), .int .i64 0]) (by simp [results, Tryz.results14, go_sem]) rfl ⟨HS'.out _ (by rw [Ht.out, if_pos hs]), (by repeat (first | exact Below.refl _ _ | assumption | refine below_drewN ?_ _ | refine Below.drew ?_ | refine Below.setCell ?_ (by first | omega | (simp; done) | (simp; omega)) _ | refine Below.alloc ?_ (by first | omega | (simp; done) | (simp; omega)) _))⟩
        · go_wp2
          exact bodyPost_ret (v := .tuple #[.agg #[.int .i64 (p * q), .int .i64 x], .int .i64 (u % lcmI p q), .int .i64 0]) (by simp [results, Tryz.results14, go_sem]) rfl ⟨HS'.out _ (by rw [Ht.out, if_neg (by omega)]), (by repeat (first | exact Below.refl _ _ | assumption | refine below_drewN ?_ _ | refine Below.drew ?_ | refine Below.setCell ?_ (by first | omega | (simp; done) | (simp; omega)) _ | refine Below.alloc ?_ (by first | omega | (simp; done) | (simp; omega)) _))⟩
      · have r1 : -(lcmI p q) < u.tmod (lcmI p q) ∧ u.tmod (lcmI p q) ≤ 0 := by
          obtain ⟨z, rfl⟩ : ∃ z, u = -z := ⟨-u, by omega⟩
          rw [Int.neg_tmod, Int.tmod_eq_emod_of_nonneg (by omega)]
          have := Int.emod_nonneg z (show lcmI p q ≠ 0 by omega)
          have := Int.emod_lt_of_pos z (show 0 < lcmI p q by omega)
          omega
        go_wp2
        exact bodyPost_ret (v := .tuple #[.agg #[.int .i64 (p * q), .int .i64 x], .int .i64 (u.tmod (lcmI p q) + lcmI p q), .int .i64 0]) (by simp [results, Tryz.results14, go_sem]) rfl ⟨HS'.out _ (by rw [if_pos (by omega)]), (by repeat (first | exact Below.refl _ _ | assumption | refine below_drewN ?_ _ | refine Below.drew ?_ | refine Below.setCell ?_ (by first | omega | (simp; done) | (simp; omega)) _ | refine Below.alloc ?_ (by first | omega | (simp; done) | (simp; omega)) _))⟩
end Go.Proofs.YtohfofecbdfkgaaGreatDoor

/-
  The walks of the specification's function that makes keys.
-/
namespace Go.Proofs.YtohfofecbdfkgaaGreatDoor
open Go.RowKit Al

theorem rkey_cases {p q x : Int} (h : keyB p q x = false) :
    inB p 3 32749 = false ∨ (inB p 3 32749 = true ∧ inB q 3 32749 = false) ∨ (inB p 3 32749 = true ∧ inB q 3 32749 = true ∧ inB x 3 32749 = false) ∨
    (inB p 3 32749 = true ∧ inB x 3 32749 = true ∧ p = q) ∨ (inB p 3 32749 = true ∧ inB q 3 32749 = true ∧ inB x 3 32749 = true ∧ ¬ p = q ∧ primeB p = false) ∨
    (inB p 3 32749 = true ∧ inB q 3 32749 = true ∧ inB x 3 32749 = true ∧ ¬ p = q ∧ primeB p = true ∧ primeB q = false) ∨
    (inB p 3 32749 = true ∧ inB q 3 32749 = true ∧ inB x 3 32749 = true ∧ ¬ p = q ∧ primeB p = true ∧ primeB q = true ∧ (gcdI ((p - 1) * (q - 1)) x == 1) = false) := by
  unfold keyB at h
  have hp : inB p 3 32749 = false → primeB p = false := primeB_no
  have hq : inB q 3 32749 = false → primeB q = false := primeB_no
  by_cases h1 : primeB p = true <;> by_cases h2 : primeB q = true <;> by_cases h3 : p = q <;> by_cases h4 : inB x 3 32749 = true <;> by_cases h5 : inB p 3 32749 = true <;> by_cases h6 : inB q 3 32749 = true <;> simp_all
theorem gcd_pos {a b : Int} (ha : 0 < a) : 1 ≤ gcdI a b := by
  unfold gcdI
  have h1 := Nat.gcd_pos_of_pos_left b.toNat (show 0 < a.toNat by omega)
  omega

theorem lcm_ref {p q : Int} (hp : 3 ≤ p ∧ p ≤ 32749) (hq : 3 ≤ q ∧ q ≤ 32749) : (p - 1) * (q - 1) / gcdI (p - 1) (q - 1) = lcmI p q := by
  have hg := gcd_pq hp.1 hq.1
  unfold lcmI
  have hd : gcdI (p - 1) (q - 1) ∣ p - 1 := by
    obtain ⟨a, ha⟩ := Int.eq_ofNat_of_zero_le (a := p - 1) (by omega)
    obtain ⟨b, hb⟩ := Int.eq_ofNat_of_zero_le (a := q - 1) (by omega)
    rw [ha, hb, gcdI_nat]
    exact Int.natCast_dvd_natCast.2 (Nat.gcd_dvd_left _ _)
  rw [Int.mul_comm (p - 1), Int.mul_ediv_assoc _ hd, Int.mul_comm]

end Go.Proofs.YtohfofecbdfkgaaGreatDoor
