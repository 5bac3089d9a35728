/-
  Plain facts: Fermat's little theorem for the primes of keys, and that a signature with the secret of a key is the only one of a digest. No program in sight.
-/
import Derived.Test.YtmpbhngjkbidcaaGreatDoorW20
import Derived.Test.YtmpbhngjkbidcaaGreatDoorW11
namespace Go.Proofs.YtmpbhngjkbidcaaGreatDoor
namespace Al

/-- A prime, by its divisors. -/
def Pri (p : Nat) : Prop := 2 ≤ p ∧ ∀ d, d ∣ p → d = 1 ∨ d = p

theorem noDiv_all {n : Nat} : ∀ (f d : Nat), noDiv n f d = true → ∀ e, d ≤ e → e < d + f → e * e ≤ n → n % e ≠ 0
  | 0, d, _, e, h1, h2, _ => absurd h2 (by omega)
  | f + 1, d, h, e, h1, h2, h3 => by
    have hd : d * d ≤ n := Nat.le_trans (Nat.mul_le_mul h1 h1) h3
    rw [noDiv, if_pos hd] at h
    by_cases hn : n % d = 0
    · rw [if_pos hn] at h; cases h
    · rw [if_neg hn] at h
      by_cases he : e = d
      · rw [he]; exact hn
      · exact noDiv_all f (d + 1) h e (by omega) (by omega) h3
theorem pri_of {n : Nat} (h2 : 2 ≤ n) (h : noDiv n n 2 = true) : Pri n := by
  refine ⟨h2, fun d hd => ?_⟩
  obtain ⟨c, hc⟩ := hd
  by_cases h1 : d = 1
  · exact .inl h1
  · by_cases h3 : d = n
    · exact .inr h3
    · exfalso
      have d0 : d ≠ 0 := by intro h0; rw [h0, Nat.zero_mul] at hc; omega
      have c0 : c ≠ 0 := by intro h0; rw [h0, Nat.mul_zero] at hc; omega
      have c1 : c ≠ 1 := by intro h0; rw [h0, Nat.mul_one] at hc; omega
      by_cases hle : d ≤ c
      · have h4 : d * d ≤ n := by rw [hc]; exact Nat.mul_le_mul_left d hle
        have h5 : 2 * d ≤ d * d := Nat.mul_le_mul_right d (by omega)
        exact noDiv_all n 2 h d (by omega) (by omega) h4 (by rw [hc]; exact Nat.mul_mod_right d c)
      · have h4 : c * c ≤ n := by rw [hc]; exact Nat.mul_le_mul_right c (by omega)
        have h5 : 2 * c ≤ c * c := Nat.mul_le_mul_right c (by omega)
        exact noDiv_all n 2 h c (by omega) (by omega) h4 (by rw [hc]; exact Nat.mul_mod_left d c)
theorem primeB_pri {p : Int} (h : primeB p = true) : Pri p.toNat := by
  unfold primeB at h
  rw [Bool.and_eq_true] at h
  have := inB_true.1 h.1
  exact pri_of (by omega) h.2

theorem Pri.cop {p a : Nat} (h : Pri p) (ha : ¬ p ∣ a) : Nat.Coprime p a := by
  rcases h.2 _ (Nat.gcd_dvd_left p a) with h1 | h1
  · exact h1
  · exact absurd (h1 ▸ Nat.gcd_dvd_right p a) ha
theorem Pri.mul {p a b : Nat} (h : Pri p) (hd : p ∣ a * b) : p ∣ a ∨ p ∣ b := by
  by_cases ha : p ∣ a
  · exact .inl ha
  · exact .inr ((h.cop ha).dvd_of_dvd_mul_left hd)

/-- The product of a list. -/
def prd : List Nat → Nat
  | [] => 1
  | x :: l => x * prd l
theorem prd_perm {l r : List Nat} (h : l.Perm r) : prd l = prd r := by
  induction h with
  | nil => rfl
  | cons x _ ih => simp only [prd, ih]
  | swap x y l => simp only [prd]; rw [Nat.mul_left_comm]
  | trans _ _ ih1 ih2 => rw [ih1, ih2]
theorem perm_of_sub : ∀ {l r : List Nat}, l.Nodup → (∀ x ∈ l, x ∈ r) → r.length ≤ l.length → l.Perm r
  | [], r, _, _, hl => by
    have : r = [] := List.eq_nil_of_length_eq_zero (by simpa using hl)
    rw [this]
  | x :: l, r, hn, hs, hl => by
    have hx : x ∈ r := hs x (by simp)
    have hp := List.perm_cons_erase hx
    have hn' := List.nodup_cons.1 hn
    refine List.Perm.trans (List.Perm.cons x (perm_of_sub (r := r.erase x) hn'.2 (fun y hy => ?_) ?_)) hp.symm
    · have hne : y ≠ x := by intro e; rw [e] at hy; exact hn'.1 hy
      exact (List.mem_erase_of_ne hne).2 (hs y (by simp [hy]))
    · have := List.length_erase_of_mem hx
      simp at hl
      omega
theorem prd_mod (a p : Nat) : ∀ xs : List Nat, prd (xs.map fun i => a * i % p) % p = a ^ xs.length * prd xs % p
  | [] => by simp [prd]
  | x :: l => by
    have ih := prd_mod a p l
    simp only [List.map_cons, prd, List.length_cons]
    rw [Nat.mul_mod, ih, Nat.mod_mod, ← Nat.mul_mod]
    congr 1
    rw [Nat.pow_succ]
    simp only [Nat.mul_assoc, Nat.mul_left_comm, Nat.mul_comm]
theorem prd_cop {p : Nat} (h : Pri p) : ∀ {xs : List Nat}, (∀ x ∈ xs, ¬ p ∣ x) → ¬ p ∣ prd xs
  | [], _, hd => by have := Nat.le_of_dvd (by simp [prd]) hd; have := h.1; simp [prd] at *; omega
  | x :: l, hx, hd => by
    rcases h.mul hd with h1 | h1
    · exact hx x (by simp) h1
    · exact prd_cop h (fun y hy => hx y (by simp [hy])) h1
theorem dvd_sub_of_mod {a b p : Nat} (h : a % p = b % p) : p ∣ a - b := by
  have h1 := Nat.div_add_mod a p
  have h2 := Nat.div_add_mod b p
  exact ⟨a / p - b / p, by rw [Nat.mul_sub]; omega⟩

/-- Fermat's little theorem. -/
theorem fermat {p a : Nat} (h : Pri p) (ha : ¬ p ∣ a) : a ^ (p - 1) % p = 1 % p := by
  have hp := h.1
  let r := (List.range (p - 1)).map (· + 1)
  have hr : ∀ x, x ∈ r ↔ 1 ≤ x ∧ x < p := by
    intro x
    simp only [r, List.mem_map, List.mem_range]
    constructor
    · rintro ⟨i, hi, rfl⟩; omega
    · rintro ⟨h1, h2⟩; exact ⟨x - 1, by omega, by omega⟩
  have hrp : ∀ x ∈ r, ¬ p ∣ x := by
    intro x hx hd
    have := (hr x).1 hx
    have := Nat.le_of_dvd (by omega) hd
    omega
  have hlen : r.length = p - 1 := by simp [r]
  have hnd : (r.map fun i => a * i % p).Nodup := by
    rw [List.Nodup, List.pairwise_map]
    have hrn : r.Pairwise (fun x y => x < y) := by
      simp only [r, List.pairwise_map]
      exact List.Pairwise.imp (by intro x y hxy; omega) List.pairwise_lt_range
    refine List.Pairwise.imp_of_mem ?_ hrn
    intro x y hx hy hxy he
    have bx := (hr x).1 hx
    have bz := (hr y).1 hy
    have hd := dvd_sub_of_mod (a := a * y) (b := a * x) (p := p) he.symm
    rw [← Nat.mul_sub] at hd
    rcases h.mul hd with h1 | h1
    · exact ha h1
    · have := Nat.le_of_dvd (by omega) h1
      omega
  have hsub : ∀ x ∈ r.map (fun i => a * i % p), x ∈ r := by
    intro x hx
    obtain ⟨i, hi, rfl⟩ := List.mem_map.1 hx
    refine (hr _).2 ⟨?_, Nat.mod_lt _ (by omega)⟩
    by_cases h0 : a * i % p = 0
    · rcases h.mul (Nat.dvd_of_mod_eq_zero h0) with h1 | h1
      · exact absurd h1 ha
      · exact absurd h1 (hrp i hi)
    · omega
  have hperm := perm_of_sub hnd hsub (by simp)
  have he := prd_mod a p r
  rw [prd_perm hperm, hlen] at he
  have hd := dvd_sub_of_mod (a := a ^ (p - 1) * prd r) (b := prd r) (p := p) he.symm
  have e1 : a ^ (p - 1) * prd r - prd r = (a ^ (p - 1) - 1) * prd r := by rw [Nat.sub_mul, Nat.one_mul]
  rw [e1] at hd
  have hk : p ∣ a ^ (p - 1) - 1 := by
    rcases h.mul hd with h1 | h1
    · exact h1
    · exact absurd h1 (prd_cop h hrp)
  have ha1 : 1 ≤ a ^ (p - 1) := Nat.one_le_iff_ne_zero.2 (fun h0 => by
    have h1 := Nat.pow_eq_zero.1 h0
    rw [h1.1] at ha
    exact ha (Nat.dvd_zero p))
  obtain ⟨c, hc⟩ := hk
  have e2 : a ^ (p - 1) = 1 + p * c := by omega
  rw [e2, Nat.add_mul_mod_self_left]

theorem pow_one_more {p d u : Nat} (h : Pri p) : d ^ (1 + (p - 1) * u) % p = d % p := by
  by_cases hd : p ∣ d
  · have h1 : p ∣ d ^ (1 + (p - 1) * u) := by
      rw [Nat.pow_add, Nat.pow_one]
      exact Nat.dvd_trans hd (Nat.dvd_mul_right _ _)
    rw [Nat.mod_eq_zero_of_dvd h1, Nat.mod_eq_zero_of_dvd hd]
  · rw [Nat.pow_add, Nat.pow_one, Nat.pow_mul, Nat.mul_mod, Nat.pow_mod, fermat h hd, ← Nat.pow_mod, Nat.one_pow, ← Nat.mul_mod, Nat.mul_one]
theorem mod_mul_of {p q a b : Nat} (hc : Nat.Coprime p q) (h1 : a % p = b % p) (h2 : a % q = b % q) : a % (p * q) = b % (p * q) := by
  rcases Nat.le_total b a with hl | hl
  · have d1 := dvd_sub_of_mod h1
    have d2 := dvd_sub_of_mod h2
    obtain ⟨c, hcc⟩ := Nat.Coprime.mul_dvd_of_dvd_of_dvd hc d1 d2
    have e : a = b + p * q * c := by omega
    rw [e, Nat.add_mul_mod_self_left]
  · have d1 := dvd_sub_of_mod h1.symm
    have d2 := dvd_sub_of_mod h2.symm
    obtain ⟨c, hcc⟩ := Nat.Coprime.mul_dvd_of_dvd_of_dvd hc d1 d2
    have e : b = a + p * q * c := by omega
    rw [e, Nat.add_mul_mod_self_left]
theorem rsa {p q d k : Nat} (hp : Pri p) (hq : Pri q) (hne : p ≠ q) (h1 : 1 ≤ k) (hk1 : p - 1 ∣ k - 1) (hk2 : q - 1 ∣ k - 1) : d ^ k % (p * q) = d % (p * q) := by
  have hc : Nat.Coprime p q := hp.cop (fun hd => by
    rcases hq.2 p hd with h | h
    · have := hp.1; omega
    · exact hne h)
  obtain ⟨u, hu⟩ := hk1
  obtain ⟨v, hv⟩ := hk2
  refine mod_mul_of hc ?_ ?_
  · rw [show k = 1 + (p - 1) * u from by omega]; exact pow_one_more hp
  · rw [show k = 1 + (q - 1) * v from by omega]; exact pow_one_more hq

end Al
end Go.Proofs.YtmpbhngjkbidcaaGreatDoor

/-
  Plain facts: what is signed with the secret of a key is a signature, and the only one.
-/
namespace Go.Proofs.YtmpbhngjkbidcaaGreatDoor
open Al

theorem sec_own {p q x : Int} (h : keyB p q x = true) : Sec (lcmI p q) x (secretI (lcmI p q) x) := by
  obtain ⟨h1, h2, hne, hx, hg⟩ := key_yes h
  have bp := primeB_in h1
  have bq := primeB_in h2
  have bx := inB_true.1 hx
  have bg := gcd_pq bp.1 bq.1
  have bL := lcmI_in bp bq bg.1 bg.2
  obtain ⟨k, hk1, hk2⟩ := multiple (L := lcmI p q) (by omega) (by omega) (lcm_gcd bp bq bx.1 hg)
  have hs := sec_search (show 1 ≤ lcmI p q by omega) (show 1 ≤ x by omega) hk1 hk2
  rw [secretI_eq hs]
  exact hs
theorem lcm_dvd {p q : Int} (hp : 3 ≤ p ∧ p ≤ 32749) (hq : 3 ≤ q ∧ q ≤ 32749) : p - 1 ∣ lcmI p q ∧ q - 1 ∣ lcmI p q := by
  have hg := gcd_pq hp.1 hq.1
  obtain ⟨a, ha⟩ := Int.eq_ofNat_of_zero_le (a := p - 1) (by omega)
  obtain ⟨b, hb⟩ := Int.eq_ofNat_of_zero_le (a := q - 1) (by omega)
  unfold lcmI
  rw [ha, hb, gcdI_nat]
  have d1 : (Nat.gcd a b : Int) ∣ (a : Int) := Int.natCast_dvd_natCast.2 (Nat.gcd_dvd_left _ _)
  have d2 : (Nat.gcd a b : Int) ∣ (b : Int) := Int.natCast_dvd_natCast.2 (Nat.gcd_dvd_right _ _)
  refine ⟨?_, Int.dvd_mul_left _ _⟩
  obtain ⟨c, hc⟩ := d2
  have e : (a : Int) / (Nat.gcd a b : Nat) * b = a * c := by
    rw [hc, ← Int.mul_assoc, Int.ediv_mul_cancel d1]
  rw [e]
  exact Int.dvd_mul_right _ _
/-- The secret undoes the exponent. -/
theorem key_pow {p q x : Int} (h : keyB p q x = true) (d : Nat) : d ^ ((secretI (lcmI p q) x).toNat * x.toNat) % (p * q).toNat = d % (p * q).toNat := by
  obtain ⟨h1, h2, hne, hx, hg⟩ := key_yes h
  have bp := primeB_in h1
  have bq := primeB_in h2
  have bx := inB_true.1 hx
  have hs := sec_own h
  have hd := lcm_dvd bp bq
  have hpp := primeB_pri h1
  have hqp := primeB_pri h2
  generalize secretI (lcmI p q) x = s at *
  generalize lcmI p q = L at *
  obtain ⟨P, rfl⟩ := Int.eq_ofNat_of_zero_le (a := p) (by omega)
  obtain ⟨Q, rfl⟩ := Int.eq_ofNat_of_zero_le (a := q) (by omega)
  obtain ⟨X, rfl⟩ := Int.eq_ofNat_of_zero_le (a := x) (by omega)
  obtain ⟨S, rfl⟩ := Int.eq_ofNat_of_zero_le (a := s) (by have := hs.1; omega)
  rw [← Int.natCast_mul]
  simp only [Int.toNat_natCast] at hpp hqp ⊢
  have hS1 : 1 ≤ S := by have := hs.1; omega
  have hsx : 1 ≤ S * X := by
    have := Nat.mul_le_mul hS1 (show 1 ≤ X by omega)
    omega
  have key : ∀ R : Nat, 1 ≤ R → ((R : Int) - 1) ∣ L → R - 1 ∣ S * X - 1 := by
    intro R hR hRL
    have := Int.dvd_trans hRL hs.2.2
    rw [← Int.natCast_mul] at this
    have e1 : ((R : Int) - 1) = ((R - 1 : Nat) : Int) := by omega
    have e2 : ((S * X : Nat) : Int) - 1 = ((S * X - 1 : Nat) : Int) := by omega
    rw [e1, e2] at this
    exact Int.natCast_dvd_natCast.1 this
  exact rsa hpp hqp (fun e => hne (by rw [e])) hsx (key P (by omega) hd.1) (key Q (by omega) hd.2)

theorem pw_in {n e m : Int} (hm : 1 ≤ m) : inB (pw n e m) 0 (m - 1) = true := by
  refine inB_mk ?_
  unfold pw
  have := Nat.mod_lt (n.toNat ^ e.toNat) (show 0 < m.toNat by omega)
  omega
theorem toNat_mod {d m : Int} (hd : 0 ≤ d) (hm : 0 ≤ m) : ((d.toNat % m.toNat : Nat) : Int) = d % m := by
  rw [Int.natCast_emod, Int.toNat_of_nonneg hd, Int.toNat_of_nonneg hm]
/-- The signature by the secret is one. -/
theorem sig_own {p q x d : Int} (h : keyB p q x = true) (hd : 0 ≤ d) : sigB (p * q) x d (pw d (secretI (lcmI p q) x) (p * q)) = true := by
  obtain ⟨h1, h2, _, _, _⟩ := key_yes h
  have bm := pq_in (primeB_in h1) (primeB_in h2)
  rw [sigB_yes (pw_in (by omega))]
  have hk := key_pow h d.toNat
  rw [beq_iff_eq]
  unfold pw
  rw [Int.toNat_natCast, ← Nat.pow_mod, ← Nat.pow_mul, hk]
  exact toNat_mod hd (by omega)
/-- .. and the only one. -/
theorem sig_only {p q x d o : Int} (h : keyB p q x = true) (hd : 0 ≤ d) (ho : 0 ≤ o ∧ o < p * q) : sigB (p * q) x d o = (o == pw d (secretI (lcmI p q) x) (p * q)) := by
  by_cases he : o = pw d (secretI (lcmI p q) x) (p * q)
  · subst he
    rw [sig_own h hd, beq_self_eq_true]
  · rw [beq_eq_false_iff_ne.2 he]
    obtain ⟨h1, h2, _, _, _⟩ := key_yes h
    have bm := pq_in (primeB_in h1) (primeB_in h2)
    rw [sigB_yes (inB_mk (by omega))]
    rw [beq_eq_false_iff_ne]
    intro hs
    refine he ?_
    have hk := key_pow h o.toNat
    unfold pw at hs ⊢
    generalize (secretI (lcmI p q) x).toNat = s at *
    have hs' : o.toNat ^ x.toNat % (p * q).toNat = d.toNat % (p * q).toNat := by
      rw [← toNat_mod hd (by omega)] at hs
      exact Int.ofNat.inj hs
    have e : o.toNat % (p * q).toNat = d.toNat ^ s % (p * q).toNat := by
      rw [← hk, Nat.mul_comm, Nat.pow_mul, Nat.pow_mod, hs', ← Nat.pow_mod]
    rw [Nat.mod_eq_of_lt (by omega)] at e
    rw [← e]
    omega
end Go.Proofs.YtmpbhngjkbidcaaGreatDoor
