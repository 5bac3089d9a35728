/-
  Plain facts: what is signed with the secret of a key is a signature, and the only one.
-/
import Derived.Test.YtohfofecbdfkgaaDoorFe
import Derived.Test.YtohfofecbdfkgaaDoorSd2
import Derived.Test.YtohfofecbdfkgaaDoorRk
namespace Go.Proofs.YtohfofecbdfkgaaDoor
open Al

theorem sec_own {p q x : Int} (h : keyB p q x = true) : Sec (lcmI p q) x (secretI (lcmI p q) x) := by
  obtain ⟨h1, h2, hne, hx, hg⟩ := key_yes h
  have bp := primeB_in h1
  have bq := primeB_in h2
  have bx := inB_true.1 hx
  have bg := gcd_pq bp.1 bq.1
  have bL := lcmI_in bp bq bg.1 bg.2
  obtain ⟨k, hk1, hk2⟩ := multiple (L := lcmI p q) (by omega) (by omega) (lcm_gcd bp bq bx.1 hg)
  have hs := sec_search (show 1 ≤ lcmI p q by omega) (show 1 ≤ x by omega) hk1 hk2
  rw [secretI_eq hs]
  exact hs
theorem lcm_dvd {p q : Int} (hp : 3 ≤ p ∧ p ≤ 32749) (hq : 3 ≤ q ∧ q ≤ 32749) : p - 1 ∣ lcmI p q ∧ q - 1 ∣ lcmI p q := by
  have hg := gcd_pq hp.1 hq.1
  obtain ⟨a, ha⟩ := Int.eq_ofNat_of_zero_le (a := p - 1) (by omega)
  obtain ⟨b, hb⟩ := Int.eq_ofNat_of_zero_le (a := q - 1) (by omega)
  unfold lcmI
  rw [ha, hb, gcdI_nat]
  have d1 : (Nat.gcd a b : Int) ∣ (a : Int) := Int.natCast_dvd_natCast.2 (Nat.gcd_dvd_left _ _)
  have d2 : (Nat.gcd a b : Int) ∣ (b : Int) := Int.natCast_dvd_natCast.2 (Nat.gcd_dvd_right _ _)
  refine ⟨?_, Int.dvd_mul_left _ _⟩
  obtain ⟨c, hc⟩ := d2
  have e : (a : Int) / (Nat.gcd a b : Nat) * b = a * c := by
    rw [hc, ← Int.mul_assoc, Int.ediv_mul_cancel d1]
  rw [e]
  exact Int.dvd_mul_right _ _
/-- The secret undoes the exponent. -/
theorem key_pow {p q x : Int} (h : keyB p q x = true) (d : Nat) : d ^ ((secretI (lcmI p q) x).toNat * x.toNat) % (p * q).toNat = d % (p * q).toNat := by
  obtain ⟨h1, h2, hne, hx, hg⟩ := key_yes h
  have bp := primeB_in h1
  have bq := primeB_in h2
  have bx := inB_true.1 hx
  have hs := sec_own h
  have hd := lcm_dvd bp bq
  have hpp := primeB_pri h1
  have hqp := primeB_pri h2
  generalize secretI (lcmI p q) x = s at *
  generalize lcmI p q = L at *
  obtain ⟨P, rfl⟩ := Int.eq_ofNat_of_zero_le (a := p) (by omega)
  obtain ⟨Q, rfl⟩ := Int.eq_ofNat_of_zero_le (a := q) (by omega)
  obtain ⟨X, rfl⟩ := Int.eq_ofNat_of_zero_le (a := x) (by omega)
  obtain ⟨S, rfl⟩ := Int.eq_ofNat_of_zero_le (a := s) (by have := hs.1; omega)
  rw [← Int.natCast_mul]
  simp only [Int.toNat_natCast] at hpp hqp ⊢
  have hS1 : 1 ≤ S := by have := hs.1; omega
  have hsx : 1 ≤ S * X := by
    have := Nat.mul_le_mul hS1 (show 1 ≤ X by omega)
    omega
  have key : ∀ R : Nat, 1 ≤ R → ((R : Int) - 1) ∣ L → R - 1 ∣ S * X - 1 := by
    intro R hR hRL
    have := Int.dvd_trans hRL hs.2.2
    rw [← Int.natCast_mul] at this
    have e1 : ((R : Int) - 1) = ((R - 1 : Nat) : Int) := by omega
    have e2 : ((S * X : Nat) : Int) - 1 = ((S * X - 1 : Nat) : Int) := by omega
    rw [e1, e2] at this
    exact Int.natCast_dvd_natCast.1 this
  exact rsa hpp hqp (fun e => hne (by rw [e])) hsx (key P (by omega) hd.1) (key Q (by omega) hd.2)

theorem pw_in {n e m : Int} (hm : 1 ≤ m) : inB (pw n e m) 0 (m - 1) = true := by
  refine inB_mk ?_
  unfold pw
  have := Nat.mod_lt (n.toNat ^ e.toNat) (show 0 < m.toNat by omega)
  omega
theorem toNat_mod {d m : Int} (hd : 0 ≤ d) (hm : 0 ≤ m) : ((d.toNat % m.toNat : Nat) : Int) = d % m := by
  rw [Int.natCast_emod, Int.toNat_of_nonneg hd, Int.toNat_of_nonneg hm]
/-- The signature by the secret is one. -/
theorem sig_own {p q x d : Int} (h : keyB p q x = true) (hd : 0 ≤ d) : sigB (p * q) x d (pw d (secretI (lcmI p q) x) (p * q)) = true := by
  obtain ⟨h1, h2, _, _, _⟩ := key_yes h
  have bm := pq_in (primeB_in h1) (primeB_in h2)
  rw [sigB_yes (pw_in (by omega))]
  have hk := key_pow h d.toNat
  rw [beq_iff_eq]
  unfold pw
  rw [Int.toNat_natCast, ← Nat.pow_mod, ← Nat.pow_mul, hk]
  exact toNat_mod hd (by omega)
/-- .. and the only one. -/
theorem sig_only {p q x d o : Int} (h : keyB p q x = true) (hd : 0 ≤ d) (ho : 0 ≤ o ∧ o < p * q) : sigB (p * q) x d o = (o == pw d (secretI (lcmI p q) x) (p * q)) := by
  by_cases he : o = pw d (secretI (lcmI p q) x) (p * q)
  · subst he
    rw [sig_own h hd, beq_self_eq_true]
  · rw [beq_eq_false_iff_ne.2 he]
    obtain ⟨h1, h2, _, _, _⟩ := key_yes h
    have bm := pq_in (primeB_in h1) (primeB_in h2)
    rw [sigB_yes (inB_mk (by omega))]
    rw [beq_eq_false_iff_ne]
    intro hs
    refine he ?_
    have hk := key_pow h o.toNat
    unfold pw at hs ⊢
    generalize (secretI (lcmI p q) x).toNat = s at *
    have hs' : o.toNat ^ x.toNat % (p * q).toNat = d.toNat % (p * q).toNat := by
      rw [← toNat_mod hd (by omega)] at hs
      exact Int.ofNat.inj hs
    have e : o.toNat % (p * q).toNat = d.toNat ^ s % (p * q).toNat := by
      rw [← hk, Nat.mul_comm, Nat.pow_mul, Nat.pow_mod, hs', ← Nat.pow_mod]
    rw [Nat.mod_eq_of_lt (by omega)] at e
    rw [← e]
    omega
end Go.Proofs.YtohfofecbdfkgaaDoor
