/-
  Natural numbers as digits: the long division.
-/
import Derived.Test.YtpphnnijnnfngaaGreatDoorW02
import Derived.Lib.ItoaNum
namespace Go.Proofs.YtpphnnijnnfngaaGreatDoor
namespace Nat9

/-- The guess of a digit: the rest T and the divisor V by their first digits. -/
structure QN (T V P W X u0 u1 u2 v1 v2 : Nat) : Prop where
  hT : T = W + P * (u2 + 1000000000 * (u1 + 1000000000 * u0))
  hW : W < P
  hV : V = X + P * (v2 + 1000000000 * v1)
  hX : X < P
  lt : T < 1000000000 * V
  d0 : u0 < 1000000000
  d1 : u1 < 1000000000
  d2 : u2 < 1000000000
  e1 : v1 < 1000000000
  e2 : v2 < 1000000000
  half : 1000000000 ≤ 2 * v1
variable {T V P W X u0 u1 u2 v1 v2 q r : Nat}
theorem qv_eq (h : QN T V P W X u0 u1 u2 v1 v2) (q : Nat) : q * V = q * X + P * (q * v2 + 1000000000 * (q * v1)) := by
  rw [h.hV, Nat.mul_add, Nat.mul_left_comm q P, Nat.mul_add q v2, Nat.mul_left_comm q 1000000000]
theorem QN.gtB (h : QN T V P W X u0 u1 u2 v1 v2) (hq : 1000000000 ≤ q) : T < q * V := Nat.lt_of_lt_of_le h.lt (Nat.mul_le_mul_right _ hq)
theorem QN.gt2 (h : QN T V P W X u0 u1 u2 v1 v2) (hqr : q * v1 + r = u0 * 1000000000 + u1) (hc : r * 1000000000 + u2 < q * v2) : T < q * V := by
  rw [qv_eq h q, h.hT]
  have h1 : u2 + 1000000000 * (u1 + 1000000000 * u0) + 1 ≤ q * v2 + 1000000000 * (q * v1) := by
    generalize q * v1 = a at *
    generalize q * v2 = b at *
    omega
  have h2 := Nat.mul_le_mul_left P h1
  rw [Nat.mul_add P _ 1, Nat.mul_one] at h2
  have := h.hW
  omega
theorem QN.u0_le (h : QN T V P W X u0 u1 u2 v1 v2) : u0 ≤ v1 := by
  rcases Nat.lt_or_ge v1 u0 with h1 | h1
  · exfalso
    have h2 := h.lt
    rw [h.hT, h.hV] at h2
    have h3 : P * (1000000000 * (v2 + 1000000000 * v1 + 1)) ≤ P * (u2 + 1000000000 * (u1 + 1000000000 * u0)) := Nat.mul_le_mul_left _ (by have := h.e2; omega)
    rw [Nat.mul_left_comm, Nat.mul_add P _ 1, Nat.mul_one] at h3
    have := h.hX
    omega
  · exact h1
theorem QN.fin (h : QN T V P W X u0 u1 u2 v1 v2) (hqr : q * v1 + r = u0 * 1000000000 + u1) (hc : q * v2 ≤ r * 1000000000 + u2) (hq : q < 1000000000) : q * V < T + V := by
  have h0 := h.half
  have hP : 0 < P := Nat.lt_of_le_of_lt (Nat.zero_le _) h.hW
  have h1 : q * v2 + 1000000000 * (q * v1) ≤ u2 + 1000000000 * (u1 + 1000000000 * u0) := by
    generalize q * v1 = a at *
    generalize q * v2 = b at *
    omega
  have h2 := Nat.mul_le_mul_left P h1
  have h3 : q * X ≤ 999999999 * P := Nat.mul_le_mul (by omega) (Nat.le_of_lt h.hX)
  have h4 : P * 1000000000 ≤ P * (v2 + 1000000000 * v1) := Nat.mul_le_mul_left _ (by omega)
  have e := qv_eq h q
  have eT := h.hT
  have eV := h.hV
  omega
theorem QN.brk (h : QN T V P W X u0 u1 u2 v1 v2) (hqr : q * v1 + r = u0 * 1000000000 + u1) (hr : 1000000000 ≤ r) : q < 1000000000 ∧ q * v2 ≤ r * 1000000000 + u2 := by
  have h0 := h.half
  have h1 := h.u0_le
  have h2 := h.d1
  have h3 : u0 * 1000000000 ≤ v1 * 1000000000 := Nat.mul_le_mul_right _ h1
  have h4 : q * v1 < 1000000000 * v1 := by omega
  have h5 : q < 1000000000 := Nat.lt_of_mul_lt_mul_right h4
  refine ⟨h5, ?_⟩
  have h6 : q * v2 ≤ 1000000000 * 1000000000 := Nat.mul_le_mul (by omega) (Nat.le_of_lt h.e2)
  omega
/-- What the guess keeps. -/
structure QI (T V u0 u1 v1 q r : Nat) : Prop where
  eq : q * v1 + r = u0 * 1000000000 + u1
  up : T < (q + 1) * V
  top : q ≤ 1000000001
theorem QN.start (h : QN T V P W X u0 u1 u2 v1 v2) : QI T V u0 u1 v1 ((u0 * 1000000000 + u1) / v1) ((u0 * 1000000000 + u1) % v1) := by
  have h0 := h.half
  have hv : 0 < v1 := by omega
  obtain ⟨t, ht⟩ : ∃ t, u0 * 1000000000 + u1 = t := ⟨_, rfl⟩
  rw [ht]
  have e1 : t / v1 * v1 + t % v1 = t := by rw [Nat.mul_comm]; exact Nat.div_add_mod t v1
  have e2 := Nat.mod_lt t hv
  refine ⟨by rw [ht]; exact e1, ?_, ?_⟩
  · have e3 : (t / v1 + 1) * v1 = t / v1 * v1 + v1 := by rw [Nat.add_mul, Nat.one_mul]
    have h1 : u2 + 1000000000 * (u1 + 1000000000 * u0) + 1 ≤ (t / v1 + 1) * v2 + 1000000000 * ((t / v1 + 1) * v1) := by
      have := h.d2
      omega
    have h2 := Nat.mul_le_mul_left P h1
    rw [Nat.mul_add P _ 1, Nat.mul_one] at h2
    rw [qv_eq h, h.hT]
    have := h.hW
    omega
  · have h1 := h.u0_le
    have h2 := h.d1
    have h3 : t / v1 * v1 < 1000000002 * v1 := by
      have h3 : u0 * 1000000000 ≤ v1 * 1000000000 := Nat.mul_le_mul_right _ h1
      omega
    have := Nat.lt_of_mul_lt_mul_right h3
    omega
theorem QI.less (h : QI T V u0 u1 v1 q r) (hg : T < q * V) : 0 < q ∧ QI T V u0 u1 v1 (q - 1) (r + v1) := by
  have hq : 0 < q := by
    rcases Nat.eq_zero_or_pos q with h0 | h0
    · subst h0; omega
    · exact h0
  refine ⟨hq, ?_, by rw [Nat.sub_add_cancel hq]; exact hg, by have := h.top; omega⟩
  have e := h.eq
  obtain ⟨p, rfl⟩ : ∃ p, q = p + 1 := ⟨q - 1, by omega⟩
  rw [Nat.add_mul, Nat.one_mul] at e
  rw [Nat.add_sub_cancel]
  omega
/-- The guess is at most one too great. -/
structure QD (T V q : Nat) : Prop where
  d : q < 1000000000
  up : T < (q + 1) * V
  lo : q * V < T + V
theorem QN.done (h : QN T V P W X u0 u1 u2 v1 v2) (hi : QI T V u0 u1 v1 q r) (hq : q < 1000000000) (hc : q * v2 ≤ r * 1000000000 + u2) : QD T V q := ⟨hq, hi.up, h.fin hi.eq hc hq⟩
theorem QN.broke (h : QN T V P W X u0 u1 u2 v1 v2) (hi : QI T V u0 u1 v1 q r) (hr : 1000000000 ≤ r) : QD T V q := h.done hi (h.brk hi.eq hr).1 (h.brk hi.eq hr).2

theorem val_split {l : List Nat} {k : Nat} (hk : k ≤ l.length) : val l = val (l.take k) + 1000000000 ^ k * val (l.drop k) := by
  have e : l = l.take k ++ l.drop k := (List.take_append_drop k l).symm
  have h2 := congrArg val e
  rw [val_app, List.length_take, Nat.min_eq_left hk] at h2
  exact h2
theorem val_high {l : List Nat} {k : Nat} (hk : k ≤ l.length) (h : val l < 1000000000 ^ k) : val (l.drop k) = 0 := by
  rw [val_split hk] at h
  rcases Nat.eq_zero_or_pos (val (l.drop k)) with h0 | h0
  · exact h0
  · have := Nat.mul_le_mul_left (1000000000 ^ k) h0
    omega
/-- The long division: the quotient's digits from k on are known. -/
structure DivI (U V n k : Nat) (u o : List Nat) : Prop where
  ds : DG u
  od : DG o
  len : n + k ≤ u.length
  eq : val u + 1000000000 ^ k * (val o * V) = U
  lt : val u < 1000000000 ^ k * V
/-- The rest's first digits. -/
theorem DivI.tops {U V n k : Nat} {u o v : List Nat} (h : DivI U V n (k + 1) u o) (hv : DG v) (hn : 2 ≤ n) (hl : v.length = n) (hV : val v = V) (hh : 1000000000 ≤ 2 * (v[n - 1]'(by omega))) :
    QN (val (u.drop k)) V (1000000000 ^ (n - 2)) (val ((u.drop k).take (n - 2))) (val (v.take (n - 2))) (u[k + n]'(by have := h.len; omega)) (u[k + (n - 1)]'(by have := h.len; omega)) (u[k + (n - 2)]'(by have := h.len; omega)) (v[n - 1]'(by omega)) (v[n - 2]'(by omega)) := by
  have hlen := h.len
  have hVn : V < 1000000000 ^ n := by rw [← hV, ← hl]; exact val_lt hv
  have hsp := val_split (l := u) (k := k) (by omega)
  have hlt : val (u.drop k) < 1000000000 * V := by
    have h1 := h.lt
    rw [hsp, Nat.pow_succ, Nat.mul_assoc] at h1
    exact Nat.lt_of_mul_lt_mul_left (Nat.lt_of_le_of_lt (Nat.le_add_left _ _) h1)
  have hz : val ((u.drop k).drop (n + 1)) = 0 := by
    refine val_high (by simp; omega) ?_
    rw [Nat.pow_succ]
    omega
  have eT : val (u.drop k) = val ((u.drop k).take (n - 2)) + 1000000000 ^ (n - 2) * (u[k + (n - 2)]'(by omega) + 1000000000 * (u[k + (n - 1)]'(by omega) + 1000000000 * u[k + n]'(by omega))) := by
    rw [val_split (l := u.drop k) (k := n - 2) (by simp; omega)]
    congr 2
    rw [List.drop_drop, drop_val (by omega), drop_val (by omega), drop_val (by omega)]
    rw [List.drop_drop] at hz
    have e1 : k + (n - 2) + 1 = k + (n - 1) := by omega
    have e2 : k + (n - 1) + 1 = k + n := by omega
    have e3 : k + (n - 2) + 1 + 1 + 1 = k + (n + 1) := by omega
    rw [e3, hz]
    simp only [e1, e2]
    omega
  have eV : V = val (v.take (n - 2)) + 1000000000 ^ (n - 2) * (v[n - 2]'(by omega) + 1000000000 * v[n - 1]'(by omega)) := by
    rw [← hV, val_split (l := v) (k := n - 2) (by omega)]
    congr 2
    rw [drop_val (by omega), drop_val (by omega)]
    have e1 : n - 2 + 1 = n - 1 := by omega
    have e2 : v.drop (n - 2 + 1 + 1) = [] := List.drop_eq_nil_of_le (by omega)
    rw [e2]
    simp only [e1]
    simp [val]
  have l1 := val_lt (((h.ds.drop k)).take (n - 2))
  rw [List.length_take, List.length_drop, Nat.min_eq_left (by omega)] at l1
  have l2 := val_lt (hv.take (n - 2))
  rw [List.length_take, Nat.min_eq_left (by omega)] at l2
  exact ⟨eT, l1, eV, l2, hlt, h.ds.at _, h.ds.at _, h.ds.at _, hv.at _, hv.at _, hh⟩
/-- The product of the digit is taken off: the first k digits are done. -/
structure MsI (u v : List Nat) (q i k : Nat) (p : List Nat) (c : Nat) : Prop where
  ds : DG p
  len : p.length = u.length
  car : c ≤ q
  eq : val p + 1000000000 ^ i * (q * val (v.take k)) = val u + 1000000000 ^ (i + k) * c
  hi : p.drop (i + v.length) = u.drop (i + v.length)
theorem MsI.start {u v : List Nat} (hu : DG u) (q i : Nat) : MsI u v q i 0 u 0 := ⟨hu, rfl, Nat.zero_le _, by simp [val], rfl⟩
theorem ms_car {q c y : Nat} (hc : c ≤ q) (hy : y < 1000000000) : c + q * y ≤ q * 1000000000 := by
  have h : q * y ≤ q * 999999999 := Nat.mul_le_mul_left _ (by omega)
  omega
theorem set_drop {l : List Nat} {j k d : Nat} (h : j < k) : (l.set j d).drop k = l.drop k := by
  rw [List.drop_set, if_pos h]
theorem ms_eq {u v p : List Nat} {q i k c t : Nat} (h : MsI u v q i k p c) (hk : k < v.length) (hi : i + k < p.length) (d : Nat) (hd : d + (c + q * v[k]) = p[i + k] + 1000000000 * t) :
    val (p.set (i + k) d) + 1000000000 ^ i * (q * val (v.take (k + 1))) = val u + 1000000000 ^ (i + (k + 1)) * t := by
  have hs := val_set hi d
  have he := h.eq
  rw [take_succ_val hk]
  have e1 : 1000000000 ^ i * (q * (val (v.take k) + 1000000000 ^ k * v[k])) = 1000000000 ^ i * (q * val (v.take k)) + 1000000000 ^ (i + k) * (q * v[k]) := by
    rw [Nat.mul_add, Nat.mul_add, Nat.pow_add]
    congr 1
    rw [Nat.mul_assoc]
    congr 1
    rw [Nat.mul_left_comm]
  have e2 : 1000000000 ^ (i + (k + 1)) * t = 1000000000 ^ (i + k) * (1000000000 * t) := by
    rw [← Nat.add_assoc, Nat.pow_succ, Nat.mul_assoc]
  have e3 : 1000000000 ^ (i + k) * d + (1000000000 ^ (i + k) * c + 1000000000 ^ (i + k) * (q * v[k])) = 1000000000 ^ (i + k) * p[i + k] + 1000000000 ^ (i + k) * (1000000000 * t) := by
    rw [← Nat.mul_add, ← Nat.mul_add, ← Nat.mul_add, hd]
  rw [e1, e2]
  omega
/-- The digit is great enough. -/
theorem MsI.plain {u v p : List Nat} {q i k c : Nat} (h : MsI u v q i k p c) (hv : DG v) (hk : k < v.length) (hi : i + k < p.length) (hd : (c + q * v[k]) % 1000000000 ≤ p[i + k]) :
    MsI u v q i (k + 1) (p.set (i + k) (p[i + k] - (c + q * v[k]) % 1000000000)) ((c + q * v[k]) / 1000000000) := by
  have h1 := ms_car h.car (hv.at hk)
  have h2 := h.ds.at hi
  refine ⟨h.ds.set _ (by omega), by simp [h.len], by omega, ms_eq h hk hi _ (by omega), ?_⟩
  rw [set_drop (by omega)]; exact h.hi
/-- The digit is too small: one more is lent. -/
theorem MsI.lent {u v p : List Nat} {q i k c : Nat} (h : MsI u v q i k p c) (hv : DG v) (hk : k < v.length) (hi : i + k < p.length) (hd : p[i + k] < (c + q * v[k]) % 1000000000) :
    MsI u v q i (k + 1) (p.set (i + k) (p[i + k] + 1000000000 - (c + q * v[k]) % 1000000000)) ((c + q * v[k]) / 1000000000 + 1) := by
  have h1 := ms_car h.car (hv.at hk)
  have h2 := h.ds.at hi
  refine ⟨h.ds.set _ (by omega), by simp [h.len], by omega, ms_eq h hk hi _ (by omega), ?_⟩
  rw [set_drop (by omega)]; exact h.hi
theorem low_top {u : List Nat} {j : Nat} (hu : DG u) (hj : j < u.length) (hz : val (u.drop (j + 1)) = 0) : val u < 1000000000 ^ j * (u[j] + 1) := by
  rw [val_split (l := u) (k := j + 1) (by omega), hz, Nat.mul_zero, Nat.add_zero, take_succ_val hj, Nat.mul_add, Nat.mul_one]
  have := val_lt (hu.take j)
  rw [List.length_take, Nat.min_eq_left (by omega)] at this
  omega
theorem drop_zero_of {u p : List Nat} {j k : Nat} (h : p.drop j = u.drop j) (hjk : j ≤ k) (hz : val (u.drop k) = 0) : val (p.drop k) = 0 := by
  obtain ⟨d, rfl⟩ : ∃ d, k = j + d := ⟨k - j, by omega⟩
  rw [← List.drop_drop, h, List.drop_drop]
  exact hz
theorem DivI.high {U V n k : Nat} {u o : List Nat} (h : DivI U V n (k + 1) u o) (hV : V < 1000000000 ^ n) : val (u.drop (k + n + 1)) = 0 := by
  refine val_high (by have := h.len; omega) (Nat.lt_of_lt_of_le h.lt ?_)
  rw [show k + n + 1 = (k + 1) + n by omega, Nat.pow_add 1000000000 (k + 1) n]
  exact Nat.mul_le_mul_left _ (Nat.le_of_lt hV)
/-- The digit fits. -/
theorem DivI.fits {U V n k q : Nat} {u o v p : List Nat} {c : Nat} (h : DivI U V n (k + 1) u o) (hl : v.length = n) (hV : val v = V) (hq : QD (val (u.drop k)) V q) (hm : MsI u v q k n p c) (hj : k + n < p.length) (hc : c ≤ p[k + n]) :
    DivI U V n k (p.set (k + n) (p[k + n] - c)) (q :: o) := by
  have hlen := h.len
  have hd := hm.ds.at hj
  have hs := val_set hj (p[k + n] - c)
  have he := hm.eq
  rw [← hl, List.take_length, hV, hl] at he
  have e1 : 1000000000 ^ (k + n) * (p[k + n] - c) + 1000000000 ^ (k + n) * c = 1000000000 ^ (k + n) * p[k + n] := by rw [← Nat.mul_add, Nat.sub_add_cancel hc]
  have e2 : val (p.set (k + n) (p[k + n] - c)) + 1000000000 ^ k * (q * V) = val u := by omega
  have hsp := val_split (l := u) (k := k) (by omega)
  have hlo := val_lt (h.ds.take k)
  rw [List.length_take, Nat.min_eq_left (by omega)] at hlo
  refine ⟨hm.ds.set _ (by omega), fun d hd => ?_, by simp; omega, ?_, ?_⟩
  · rcases List.mem_cons.1 hd with rfl | hd
    · exact hq.d
    · exact h.od d hd
  · have e3 := h.eq
    show _ + 1000000000 ^ k * ((q + 1000000000 * val o) * V) = U
    rw [Nat.pow_succ, Nat.mul_assoc] at e3
    rw [Nat.add_mul, Nat.mul_add, Nat.mul_assoc 1000000000 (val o) V]
    omega
  · have e3 : 1000000000 ^ k * (val (u.drop k) + 1) ≤ 1000000000 ^ k * ((q + 1) * V) := Nat.mul_le_mul_left _ hq.up
    rw [Nat.mul_add, Nat.add_mul, Nat.mul_add, Nat.one_mul, Nat.mul_one] at e3
    omega
/-- The divisor is added back. -/
structure BaI (u v : List Nat) (i k : Nat) (p : List Nat) (c : Nat) : Prop where
  ds : DG p
  len : p.length = u.length
  car : c ≤ 1
  eq : val p + 1000000000 ^ (i + k) * c = val u + 1000000000 ^ i * val (v.take k)
  hi : p.drop (i + v.length) = u.drop (i + v.length)
theorem BaI.start {u : List Nat} (hu : DG u) (v : List Nat) (i : Nat) : BaI u v i 0 u 0 := ⟨hu, rfl, by omega, by simp [val], rfl⟩
theorem BaI.step {u v p : List Nat} {i k c : Nat} (h : BaI u v i k p c) (hv : DG v) (hk : k < v.length) (hi : i + k < p.length) :
    BaI u v i (k + 1) (p.set (i + k) ((c + (p[i + k] + v[k])) % 1000000000)) ((c + (p[i + k] + v[k])) / 1000000000) := by
  have h1 := hv.at hk
  have h2 := h.ds.at hi
  have h3 := h.car
  refine ⟨h.ds.set _ (by omega), by simp [h.len], by omega, ?_, ?_⟩
  · have hs := val_set hi ((c + (p[i + k] + v[k])) % 1000000000)
    have he := h.eq
    rw [take_succ_val hk]
    have e1 : 1000000000 ^ i * (val (v.take k) + 1000000000 ^ k * v[k]) = 1000000000 ^ i * val (v.take k) + 1000000000 ^ (i + k) * v[k] := by
      rw [Nat.mul_add, Nat.pow_add, Nat.mul_assoc]
    have e2 : 1000000000 ^ (i + (k + 1)) * ((c + (p[i + k] + v[k])) / 1000000000) = 1000000000 ^ (i + k) * (1000000000 * ((c + (p[i + k] + v[k])) / 1000000000)) := by
      rw [← Nat.add_assoc, Nat.pow_succ, Nat.mul_assoc]
    have e3 : 1000000000 ^ (i + k) * ((c + (p[i + k] + v[k])) % 1000000000) + 1000000000 ^ (i + k) * (1000000000 * ((c + (p[i + k] + v[k])) / 1000000000)) = 1000000000 ^ (i + k) * c + (1000000000 ^ (i + k) * p[i + k] + 1000000000 ^ (i + k) * v[k]) := by
      rw [← Nat.mul_add, Nat.mod_add_div, Nat.mul_add, Nat.mul_add]
    rw [e1, e2]
    omega
  · rw [set_drop (by omega)]; exact h.hi
/-- The digit was one too great. -/
theorem DivI.back {U V n k q : Nat} {u o v p t : List Nat} {c e : Nat} (h : DivI U V n (k + 1) u o) (hvd : DG v) (hl : v.length = n) (hV : val v = V) (hq : QD (val (u.drop k)) V q) (hm : MsI u v q k n p c) (hj : k + n < p.length) (hc : p[k + n] < c)
    (hb : BaI (p.set (k + n) (p[k + n] + 1000000000 - c)) v k n t e) (hj2 : k + n < t.length) :
    0 < q ∧ DivI U V n k (t.set (k + n) ((t[k + n] + e) % 1000000000)) ((q - 1) :: o) := by
  have hlen := h.len
  have hcq := hm.car
  have hq0 : 0 < q := by omega
  refine ⟨hq0, ?_⟩
  have hVn : V < 1000000000 ^ n := by rw [← hV, ← hl]; exact val_lt hvd
  have hqd := hq.d
  have hd := hm.ds.at hj
  have hs := val_set hj (p[k + n] + 1000000000 - c)
  have hm1 := hm.eq
  rw [← hl, List.take_length, hV, hl] at hm1
  have hb1 := hb.eq
  have htk : v.take n = v := by rw [← hl, List.take_length]
  rw [htk, hV] at hb1
  have hzu := h.high hVn
  have hmh := hm.hi
  have hbh := hb.hi
  rw [hl] at hmh hbh
  have hzp : val (p.drop (k + n + 1)) = 0 := drop_zero_of hmh (by omega) hzu
  have hzt : val (t.drop (k + n + 1)) = 0 := by
    have h1 : t.drop (k + n + 1) = p.drop (k + n + 1) := by
      have h2 := congrArg (List.drop 1) hbh
      rw [List.drop_drop, List.drop_drop, set_drop (by omega)] at h2
      exact h2
    rw [h1]; exact hzp
  have hlow := low_top hm.ds hj hzp
  -- the rest is less than the product
  have hTq : val u < 1000000000 ^ k * (q * V) := by
    have h1 : 1000000000 ^ (k + n) * (p[k + n] + 1) ≤ 1000000000 ^ (k + n) * c := Nat.mul_le_mul_left _ hc
    omega
  obtain ⟨q', rfl⟩ : ∃ q', q = q' + 1 := ⟨q - 1, by omega⟩
  rw [Nat.add_sub_cancel]
  have eqV : 1000000000 ^ k * ((q' + 1) * V) = 1000000000 ^ k * (q' * V) + 1000000000 ^ k * V := by rw [Nat.add_mul, Nat.one_mul, Nat.mul_add]
  rw [eqV] at hTq hm1
  have hsp := val_split (l := u) (k := k) (by omega)
  have hlo : 1000000000 ^ k * (q' * V) ≤ val u := by
    have h1 := hq.lo
    rw [Nat.add_mul, Nat.one_mul] at h1
    have h2 : 1000000000 ^ k * (q' * V) ≤ 1000000000 ^ k * val (u.drop k) := Nat.mul_le_mul_left _ (by omega)
    omega
  have e1 : 1000000000 ^ (k + n) * (p[k + n] + 1000000000 - c) + 1000000000 ^ (k + n) * c = 1000000000 ^ (k + n) * p[k + n] + 1000000000 ^ (k + n) * 1000000000 := by
    rw [← Nat.mul_add, ← Nat.mul_add, Nat.sub_add_cancel (by omega)]
  -- behind the last carry
  have ht := hb.ds.at hj2
  have he := hb.car
  have hs2 := val_set hj2 ((t[k + n] + e) % 1000000000)
  have hlt4 : val (t.set (k + n) ((t[k + n] + e) % 1000000000)) < 1000000000 ^ (k + n) * 1000000000 := by
    have h1 : DG (t.set (k + n) ((t[k + n] + e) % 1000000000)) := hb.ds.set _ (by omega)
    have h2 := low_top (j := k + n) h1 (by simpa using hj2) (by rw [set_drop (by omega)]; exact hzt)
    refine Nat.lt_of_lt_of_le h2 (Nat.mul_le_mul_left _ ?_)
    rw [List.getElem_set_self]
    omega
  have key : val (t.set (k + n) ((t[k + n] + e) % 1000000000)) + 1000000000 ^ k * (q' * V) = val u := by
    rcases Nat.lt_or_ge (t[k + n] + e) 1000000000 with h1 | h1
    · rw [Nat.mod_eq_of_lt h1] at hs2 hlt4 ⊢
      rw [Nat.mul_add] at hs2
      omega
    · have e2 : (t[k + n] + e) % 1000000000 + 1000000000 = t[k + n] + e := by omega
      have e3 : 1000000000 ^ (k + n) * ((t[k + n] + e) % 1000000000) + 1000000000 ^ (k + n) * 1000000000 = 1000000000 ^ (k + n) * t[k + n] + 1000000000 ^ (k + n) * e := by
        rw [← Nat.mul_add, e2, Nat.mul_add]
      omega
  refine ⟨hb.ds.set _ (by omega), fun d hd => ?_, ?_, ?_, ?_⟩
  · rcases List.mem_cons.1 hd with rfl | hd
    · omega
    · exact h.od d hd
  · have := hb.len
    have := hm.len
    simp at *
    omega
  · have e3 := h.eq
    show _ + 1000000000 ^ k * ((q' + 1000000000 * val o) * V) = U
    rw [Nat.pow_succ, Nat.mul_assoc] at e3
    rw [Nat.add_mul, Nat.mul_add, Nat.mul_assoc 1000000000 (val o) V]
    omega
  · omega
theorem DivI.end_ {x y s n : Nat} {u o : List Nat} (h : DivI (x * s) (y * s) n 0 u o) (hs : 0 < s) (hy : 0 < y) : val o = x / y ∧ val u = x % y * s := by
  have e := h.eq
  have l := h.lt
  rw [Nat.pow_zero, Nat.one_mul] at e l
  have hys : 0 < y * s := Nat.mul_pos hy hs
  have h1 : x * s / (y * s) = val o := by
    rw [← e, Nat.add_mul_div_right _ _ hys, Nat.div_eq_of_lt l, Nat.zero_add]
  have h2 : x * s % (y * s) = val u := by
    rw [← e, Nat.add_mul_mod_self_right, Nat.mod_eq_of_lt l]
  rw [Nat.mul_div_mul_right _ _ hs] at h1
  rw [Nat.mul_mod_mul_right] at h2
  exact ⟨h1.symm, h2.symm⟩
/-- The start of the long division. -/
theorem DivI.start {x y s n m : Nat} {u : List Nat} (hu : DG u) (hv : val u = x * s) (hl : u.length = n + m) (hx : x < 1000000000 ^ (n + m - 1)) (hy : 1000000000 ^ (n - 1) ≤ y) (hn : 1 ≤ n) (hm : 1 ≤ m) (hs : 0 < s) : DivI (x * s) (y * s) n m u [] := by
  refine ⟨hu, (fun d h => by cases h), by omega, by simp [val, hv], ?_⟩
  rw [hv, ← Nat.mul_assoc]
  refine Nat.mul_lt_mul_of_pos_right (Nat.lt_of_lt_of_le hx ?_) hs
  rw [show n + m - 1 = m + (n - 1) by omega, Nat.pow_add]
  exact Nat.mul_le_mul_left _ hy
/-- The scale: the first digit of the divisor becomes at least half of the base. -/
theorem scale_ok {d : Nat} (h0 : 0 < d) (h9 : d < 1000000000) : 0 < 1000000000 / (d + 1) ∧ 1000000000 / (d + 1) < 1000000000 ∧ 1000000000 ≤ 2 * (1000000000 / (d + 1) * d) ∧ 1000000000 / (d + 1) * (d + 1) ≤ 1000000000 := by
  obtain ⟨s, hs⟩ : ∃ s, 1000000000 / (d + 1) = s := ⟨_, rfl⟩
  rw [hs]
  have hle : s * (d + 1) ≤ 1000000000 := by rw [← hs]; exact Nat.div_mul_le_self _ _
  have hlt : 1000000000 < (s + 1) * (d + 1) := by
    rw [← hs]
    have := Nat.div_add_mod 1000000000 (d + 1)
    have h2 := Nat.mod_lt 1000000000 (show 0 < d + 1 by omega)
    rw [Nat.add_mul, Nat.one_mul, Nat.mul_comm (1000000000 / (d + 1))]
    omega
  have h1 : 0 < s := by
    rcases Nat.eq_zero_or_pos s with h | h
    · subst h; omega
    · exact h
  have hle2 : s * d + s ≤ 1000000000 := by rw [Nat.mul_add, Nat.mul_one] at hle; exact hle
  have hlt2 : 1000000000 < s * d + s + d + 1 := by rw [Nat.add_mul, Nat.mul_add, Nat.mul_one, Nat.one_mul] at hlt; omega
  have hsd : 1 * d ≤ s * d := Nat.mul_le_mul_right _ h1
  have hsd2 : s * 1 ≤ s * d := Nat.mul_le_mul_left _ h0
  refine ⟨h1, by omega, ?_, hle⟩
  -- s d is at least s and d
  rcases Nat.lt_or_ge d s with h | h
  · rcases Nat.lt_or_ge s 2 with h2 | h2
    · omega
    · rcases Nat.lt_or_ge d 2 with h3 | h3
      · obtain rfl : d = 1 := by omega
        omega
      · have : d * 2 ≤ d * s := Nat.mul_le_mul_left _ h2
        rw [Nat.mul_comm d s] at this
        have : s * 2 ≤ s * d := Nat.mul_le_mul_left _ h3
        omega
  · rcases Nat.lt_or_ge s 2 with h2 | h2
    · obtain rfl : s = 1 := by omega
      omega
    · have : d * 2 ≤ d * s := Nat.mul_le_mul_left _ h2
      rw [Nat.mul_comm d s] at this
      have : s * 2 ≤ s * d := Nat.mul_le_mul_left _ (by omega)
      omega
end Nat9
end Go.Proofs.YtpphnnijnnfngaaGreatDoor

/-
  Natural numbers as digits: how many digits; the scale of the long division.
-/
namespace Go.Proofs.YtpphnnijnnfngaaGreatDoor
namespace Nat9

theorem dg_top {v : Nat} (hv : 0 < v) : ∃ h : (dg v).length - 1 < (dg v).length, 0 < (dg v)[(dg v).length - 1] ∧ v = val ((dg v).take ((dg v).length - 1)) + 1000000000 ^ ((dg v).length - 1) * (dg v)[(dg v).length - 1] := by
  have h0 : (dg v).length ≠ 0 := fun e => by have := dg_len0.1 e; omega
  have h : (dg v).length - 1 < (dg v).length := by omega
  refine ⟨h, ?_, ?_⟩
  · have h2 := dg_last v
    rw [List.getLast?_eq_getElem?, List.getElem?_eq_getElem h] at h2
    rcases Nat.eq_zero_or_pos ((dg v)[(dg v).length - 1]) with h3 | h3
    · rw [h3] at h2; exact absurd rfl h2
    · exact h3
  · have h2 := take_succ_val h
    rw [show (dg v).length - 1 + 1 = (dg v).length by omega, List.take_length, val_dg] at h2
    exact h2
theorem dg_lead {v : Nat} (hv : 0 < v) : 1000000000 ^ ((dg v).length - 1) ≤ v := by
  obtain ⟨h, h1, h2⟩ := dg_top hv
  have h3 : 1000000000 ^ ((dg v).length - 1) * 1 ≤ 1000000000 ^ ((dg v).length - 1) * (dg v)[(dg v).length - 1] := Nat.mul_le_mul_left _ h1
  omega
theorem dg_room (v : Nat) : v < 1000000000 ^ (dg v).length := by
  have h := val_lt (dg_dg v)
  rw [val_dg] at h
  exact h
theorem dg_len_gt {v k : Nat} (h : 1000000000 ^ k ≤ v) : k < (dg v).length := (Nat.pow_lt_pow_iff_right (by omega)).1 (Nat.lt_of_le_of_lt h (dg_room v))
theorem dg_len_le {v k : Nat} (h : v < 1000000000 ^ k) : (dg v).length ≤ k := by
  rcases Nat.eq_zero_or_pos v with h0 | h0
  · subst h0; rw [dg_zero]; exact Nat.zero_le _
  · have h1 := dg_lead h0
    have h2 : (dg v).length - 1 < k := (Nat.pow_lt_pow_iff_right (by omega)).1 (Nat.lt_of_le_of_lt h1 h)
    omega
theorem dg_len_mono {a b : Nat} (h : a ≤ b) : (dg a).length ≤ (dg b).length := dg_len_le (Nat.lt_of_le_of_lt h (dg_room b))
theorem dg_len_mul (a b : Nat) : (dg (a * b)).length ≤ (dg a).length + (dg b).length := dg_len_le (by
  rw [Nat.pow_add]
  exact Nat.mul_lt_mul'' (dg_room a) (dg_room b))
theorem dg_len_add (a b : Nat) : (dg (a + b)).length ≤ max (dg a).length (dg b).length + 1 := dg_len_le (by
  have h1 := Nat.lt_of_lt_of_le (dg_room a) (Nat.pow_le_pow_right (n := 1000000000) (by omega) (Nat.le_max_left (dg a).length (dg b).length))
  have h2 := Nat.lt_of_lt_of_le (dg_room b) (Nat.pow_le_pow_right (n := 1000000000) (by omega) (Nat.le_max_right (dg a).length (dg b).length))
  rw [Nat.pow_succ]
  omega)
/-- The scaled divisor and dividend. -/
structure ScF (x y s n : Nat) : Prop where
  n2 : 2 ≤ n
  ly : (dg y).length = n
  s0 : 0 < s
  s9 : s < 1000000000
  lv : (dg (y * s)).length = n
  half : ∃ h : n - 1 < (dg (y * s)).length, 1000000000 ≤ 2 * (dg (y * s))[n - 1]
  pw : 1000000000 ^ (n - 1) ≤ y
  lu : (dg x).length ≤ (dg (x * s)).length
  lu1 : (dg (x * s)).length ≤ (dg x).length + 1
theorem scF {x y d : Nat} (hy : 1000000000 ≤ y) (hd : ∀ h : (dg y).length - 1 < (dg y).length, (dg y)[(dg y).length - 1] = d) : ScF x y (1000000000 / (d + 1)) (dg y).length ∧ 0 < d ∧ d < 1000000000 := by
  have hy0 : 0 < y := by omega
  obtain ⟨h, h1, h2⟩ := dg_top hy0
  have h3 := (dg_dg y).at h
  rw [hd h] at h1 h2 h3
  obtain ⟨g1, g2, g3, g4⟩ := scale_ok h1 h3
  obtain ⟨s, hs⟩ : ∃ s, 1000000000 / (d + 1) = s := ⟨_, rfl⟩
  rw [hs] at g1 g2 g3 g4 ⊢
  have hn : 2 ≤ (dg y).length := dg_len_gt (k := 1) (by omega)
  have hl := dg_lead hy0
  have ht := val_lt ((dg_dg y).take ((dg y).length - 1))
  rw [List.length_take, Nat.min_eq_left (by omega)] at ht
  obtain ⟨n, hnn⟩ : ∃ n, (dg y).length = n + 1 := ⟨(dg y).length - 1, by omega⟩
  rw [hnn, Nat.add_sub_cancel] at h2 hl ht
  have hxs : x ≤ x * s := by have := Nat.mul_le_mul_left x g1; omega
  have hys : y ≤ y * s := by have := Nat.mul_le_mul_left y g1; omega
  have hyu : y * s < 1000000000 ^ (n + 1) := by
    have e1 : y * s < 1000000000 ^ n * (d + 1) * s := Nat.mul_lt_mul_of_pos_right (by rw [Nat.mul_add, Nat.mul_one]; omega) g1
    have e2 : 1000000000 ^ n * (d + 1) * s ≤ 1000000000 ^ n * 1000000000 := by
      rw [Nat.mul_assoc]
      exact Nat.mul_le_mul_left _ (by rw [Nat.mul_comm]; exact g4)
    rw [Nat.pow_succ]
    omega
  have hlv : (dg (y * s)).length = n + 1 := by
    have a1 := dg_len_le hyu
    have a2 := dg_len_gt (Nat.le_trans hl hys)
    omega
  refine ⟨⟨hn, rfl, g1, g2, by rw [hlv, hnn], ?_, by rw [hnn, Nat.add_sub_cancel]; exact hl, dg_len_mono hxs, ?_⟩, h1, h3⟩
  · obtain ⟨k1, k2, k3⟩ := dg_top (v := y * s) (by omega)
    have e : (dg y).length - 1 = (dg (y * s)).length - 1 := by omega
    refine ⟨by omega, ?_⟩
    simp only [e]
    have t1 := val_lt ((dg_dg (y * s)).take ((dg (y * s)).length - 1))
    rw [List.length_take, Nat.min_eq_left (by omega)] at t1
    generalize (dg (y * s))[(dg (y * s)).length - 1] = v1 at *
    have e3 : (dg (y * s)).length - 1 = n := by omega
    rw [e3] at k3 t1
    have t2 : 1000000000 ^ n * (d * s) ≤ y * s := by
      rw [← Nat.mul_assoc]
      exact Nat.mul_le_mul_right _ (by omega)
    have t3 : 1000000000 ^ n * (d * s) < 1000000000 ^ n * (v1 + 1) := by rw [Nat.mul_add, Nat.mul_one]; omega
    have t4 := Nat.lt_of_mul_lt_mul_left t3
    rw [Nat.mul_comm] at t4
    omega
  · refine dg_len_le ?_
    rw [Nat.pow_succ]
    exact Nat.mul_lt_mul'' (dg_room x) g2
end Nat9
end Go.Proofs.YtpphnnijnnfngaaGreatDoor

/-
  The decimal text of a number by its digits to the base 10^9.
-/
namespace Go.Proofs.YtpphnnijnnfngaaGreatDoor
namespace Nat9

/-- The last k decimal digits, zeros ahead. -/
def padk : Nat → Nat → List UInt8
  | 0, _ => []
  | k + 1, r => padk k (r / 10) ++ [UInt8.ofNat (48 + r % 10)]
theorem padk_len : ∀ k r, (padk k r).length = k
  | 0, _ => rfl
  | k + 1, r => by rw [padk, List.length_append, padk_len k]; rfl
theorem dec_step {u : Nat} (h : ¬ u < 10) : Lib.decDigits u = Lib.decDigits (u / 10) ++ [UInt8.ofNat (48 + u % 10)] := by
  rw [Lib.decDigits, dif_neg h]
theorem dec_pad {q : Nat} (hq : 0 < q) : ∀ (k r : Nat), r < 10 ^ k → Lib.decDigits (q * 10 ^ k + r) = Lib.decDigits q ++ padk k r
  | 0, r, h => by
    obtain rfl : r = 0 := by simpa using h
    simp [padk]
  | k + 1, r, h => by
    have h1 : 1 ≤ 10 ^ k := Nat.pow_pos (by omega)
    have h2 : 1 * 1 ≤ q * 10 ^ k := Nat.mul_le_mul hq h1
    have e : q * 10 ^ (k + 1) = 10 * (q * 10 ^ k) := by rw [Nat.pow_succ, ← Nat.mul_assoc, Nat.mul_comm]
    rw [Nat.pow_succ] at h
    rw [e, dec_step (by omega), show (10 * (q * 10 ^ k) + r) / 10 = q * 10 ^ k + r / 10 by omega, show (10 * (q * 10 ^ k) + r) % 10 = r % 10 by omega, dec_pad hq k (r / 10) (by omega), padk, List.append_assoc]
theorem pad_zero : ∀ k, padk k 0 = List.replicate k 48
  | 0 => rfl
  | k + 1 => by rw [padk, Nat.zero_div, pad_zero k, List.replicate_succ']; rfl
theorem pad_dec : ∀ (k r : Nat), r < 10 ^ (k + 1) → (Lib.decDigits r).length ≤ k + 1 ∧ padk (k + 1) r = List.replicate (k + 1 - (Lib.decDigits r).length) 48 ++ Lib.decDigits r
  | 0, r, h => by
    have h1 : r < 10 := by simpa using h
    rw [Lib.decDigits_one h1]
    refine ⟨by simp, ?_⟩
    rw [padk, padk, Nat.mod_eq_of_lt h1]
    rfl
  | k + 1, r, h => by
    by_cases h1 : r < 10
    · rw [Lib.decDigits_one h1]
      refine ⟨by simp, ?_⟩
      rw [padk, Nat.div_eq_of_lt h1, pad_zero, Nat.mod_eq_of_lt h1]
      simp
    · rw [Nat.pow_succ] at h
      obtain ⟨l, e⟩ := pad_dec k (r / 10) (by omega)
      rw [dec_step h1]
      refine ⟨by simp; omega, ?_⟩
      rw [padk, e, List.append_assoc, List.length_append]
      congr 2
      simp
theorem dec_nonempty (u : Nat) : 1 ≤ (Lib.decDigits u).length := by
  by_cases h : u < 10
  · rw [Lib.decDigits_one h]; simp
  · rw [dec_step h]; simp
/-- The text of the digits from place k on. -/
theorem dec_digit {l : List Nat} (hl : DG l) {k : Nat} (hk : k < l.length) (hv : 0 < val (l.drop (k + 1))) :
    Lib.decDigits (val (l.drop k)) = Lib.decDigits (val (l.drop (k + 1))) ++ (List.replicate (9 - (Lib.decDigits l[k]).length) 48 ++ Lib.decDigits l[k]) ∧ (Lib.decDigits l[k]).length ≤ 9 := by
  have h9 := hl.at hk
  obtain ⟨e1, e2⟩ := pad_dec 8 l[k] (by omega)
  refine ⟨?_, e1⟩
  rw [drop_val hk, ← e2, ← dec_pad hv 9 _ (by omega)]
  congr 1
  omega
theorem dec_len_step {u d : Nat} (hu : 0 < u) (hd : d < 1000000000) : (Lib.decDigits (d + 1000000000 * u)).length = (Lib.decDigits u).length + 9 := by
  have h := dec_pad hu 9 d (by omega)
  rw [show d + 1000000000 * u = u * 10 ^ 9 + d by omega, h, List.length_append, padk_len]
/-- How many decimal digits. -/
theorem dec_len {l : List Nat} (hl : DG l) : ∀ (k : Nat) (hk : k < l.length), 0 < l[l.length - 1]'(by omega) → (Lib.decDigits (val (l.drop (l.length - 1 - k)))).length = 9 * k + (Lib.decDigits (l[l.length - 1]'(by omega))).length ∧ 0 < val (l.drop (l.length - 1 - k))
  | 0, hk, h0 => by
    have e : val (l.drop (l.length - 1 - 0)) = l[l.length - 1]'(by omega) := by
      rw [Nat.sub_zero, drop_val (by omega), List.drop_eq_nil_of_le (by omega)]
      simp [val]
    rw [e]
    exact ⟨by omega, h0⟩
  | k + 1, hk, h0 => by
    obtain ⟨e, p⟩ := dec_len hl k (by omega) h0
    have e2 : l.length - 1 - (k + 1) + 1 = l.length - 1 - k := by omega
    have e3 := drop_val (l := l) (k := l.length - 1 - (k + 1)) (by omega)
    rw [e2] at e3
    rw [e3, dec_len_step p (hl.at _), e]
    exact ⟨by omega, by omega⟩
theorem dec_size {v : Nat} (hv : 0 < v) : ∃ h : (dg v).length - 1 < (dg v).length, (Lib.decDigits v).length = 9 * ((dg v).length - 1) + (Lib.decDigits ((dg v)[(dg v).length - 1])).length := by
  obtain ⟨h, h0, _⟩ := dg_top hv
  refine ⟨h, ?_⟩
  have e := (dec_len (dg_dg v) ((dg v).length - 1) h h0).1
  rw [Nat.sub_self, List.drop_zero, val_dg] at e
  exact e
end Nat9
end Go.Proofs.YtpphnnijnnfngaaGreatDoor
