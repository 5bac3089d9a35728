/-
  Natural numbers as digits to the base 10^9, the least first: plain facts.
-/
import Derived.WalkKit
import Derived.Test.YtpphnnijnnfngaaGreatDoorW01
import Derived.Maps.AppendAt
import Derived.OwnWalk
import Derived.Deep.AppendLies
import Derived.IntWalk
namespace Go.Proofs.YtpphnnijnnfngaaGreatDoor
namespace Nat9

/-- The value of digits. -/
def val : List Nat → Nat
  | [] => 0
  | d :: r => d + 1000000000 * val r
/-- Digits. -/
def DG (l : List Nat) : Prop := ∀ d ∈ l, d < 1000000000
/-- The digits of a number, without zeros at the end. -/
def dg (n : Nat) : List Nat := if _h : n = 0 then [] else n % 1000000000 :: dg (n / 1000000000)
termination_by n
decreasing_by omega
theorem dg_zero : dg 0 = [] := by rw [dg]; simp
theorem dg_pos {n : Nat} (h : 0 < n) : dg n = n % 1000000000 :: dg (n / 1000000000) := by
  rw [dg, dif_neg (by omega)]
theorem dg_small {n : Nat} (h0 : 0 < n) (h1 : n < 1000000000) : dg n = [n] := by
  rw [dg_pos h0, Nat.mod_eq_of_lt h1, Nat.div_eq_of_lt h1, dg_zero]
theorem val_dg (n : Nat) : val (dg n) = n := by
  induction n using Nat.strongRecOn with
  | _ n ih =>
    by_cases h : n = 0
    · subst h; rw [dg_zero]; rfl
    · rw [dg_pos (by omega)]
      show n % 1000000000 + 1000000000 * val (dg (n / 1000000000)) = n
      rw [ih _ (by omega)]
      omega
theorem dg_dg (n : Nat) : DG (dg n) := by
  induction n using Nat.strongRecOn with
  | _ n ih =>
    by_cases h : n = 0
    · subst h; rw [dg_zero]; intro d hd; cases hd
    · rw [dg_pos (by omega)]
      intro d hd
      rcases List.mem_cons.1 hd with rfl | hd
      · omega
      · exact ih _ (by omega) d hd
theorem val_app (a b : List Nat) : val (a ++ b) = val a + 1000000000 ^ a.length * val b := by
  induction a with
  | nil => simp [val]
  | cons x a ih =>
    show x + 1000000000 * val (a ++ b) = x + 1000000000 * val a + 1000000000 ^ (a.length + 1) * val b
    rw [ih, Nat.pow_succ, Nat.mul_add, Nat.add_assoc]
    congr 2
    rw [Nat.mul_comm (1000000000 ^ a.length) 1000000000, Nat.mul_assoc]
theorem DG.tail {d : Nat} {l : List Nat} (h : DG (d :: l)) : DG l := fun x hx => h x (List.mem_cons_of_mem _ hx)
theorem DG.take {l : List Nat} (h : DG l) (k : Nat) : DG (l.take k) := fun x hx => h x (List.mem_of_mem_take hx)
theorem DG.drop {l : List Nat} (h : DG l) (k : Nat) : DG (l.drop k) := fun x hx => h x (List.mem_of_mem_drop hx)
theorem DG.at {l : List Nat} (h : DG l) {k : Nat} (hk : k < l.length) : l[k] < 1000000000 := h _ (List.getElem_mem hk)
theorem DG.snoc {l : List Nat} (h : DG l) {d : Nat} (hd : d < 1000000000) : DG (l ++ [d]) := fun x hx => by
  rcases List.mem_append.1 hx with hx | hx
  · exact h x hx
  · rw [List.mem_singleton.1 hx]; exact hd
theorem DG.set {l : List Nat} (h : DG l) (k : Nat) {d : Nat} (hd : d < 1000000000) : DG (l.set k d) := fun x hx => by
  rcases List.mem_or_eq_of_mem_set hx with hx | rfl
  · exact h x hx
  · exact hd
theorem val_lt {l : List Nat} (h : DG l) : val l < 1000000000 ^ l.length := by
  induction l with
  | nil => simp [val]
  | cons x l ih =>
    have h1 := ih h.tail
    have h2 := h x (by simp)
    show x + 1000000000 * val l < 1000000000 ^ (l.length + 1)
    rw [Nat.pow_succ]
    omega
/-- Digits without a zero at the end are those of their value. -/
theorem dg_of {l : List Nat} (h : DG l) (hl : l.getLast? ≠ some 0) : l = dg (val l) := by
  induction l with
  | nil => rw [show val [] = 0 from rfl, dg_zero]
  | cons x l ih =>
    have h1 := h x (by simp)
    have hl2 : l.getLast? ≠ some 0 := by
      cases l with
      | nil => simp
      | cons y l => simpa using hl
    have ih' := ih h.tail hl2
    have hp : 0 < val (x :: l) := by
      show 0 < x + 1000000000 * val l
      cases l with
      | nil =>
        have : x ≠ 0 := fun e => hl (by rw [e]; rfl)
        omega
      | cons y l =>
        have : 0 < val (y :: l) := by
          rcases Nat.eq_zero_or_pos (val (y :: l)) with h0 | h0
          · rw [h0, dg_zero] at ih'; cases ih'
          · exact h0
        omega
    rw [dg_pos hp]
    have e1 : val (x :: l) % 1000000000 = x := by
      show (x + 1000000000 * val l) % 1000000000 = x
      omega
    have e2 : val (x :: l) / 1000000000 = val l := by
      show (x + 1000000000 * val l) / 1000000000 = val l
      omega
    rw [e1, e2, ← ih']
theorem dg_last (n : Nat) : (dg n).getLast? ≠ some 0 := by
  induction n using Nat.strongRecOn with
  | _ n ih =>
    by_cases h : n = 0
    · subst h; rw [dg_zero]; simp
    · rw [dg_pos (by omega)]
      have h2 := ih (n / 1000000000) (by omega)
      cases hd : dg (n / 1000000000) with
      | nil =>
        have : n / 1000000000 = 0 := by
          have := val_dg (n / 1000000000)
          rw [hd] at this
          exact this.symm
        simp
        omega
      | cons y l =>
        rw [hd] at h2
        simpa using h2
theorem dg_nil {n : Nat} : dg n = [] ↔ n = 0 := ⟨fun h => by have := val_dg n; rw [h] at this; exact this.symm, fun h => by rw [h, dg_zero]⟩
theorem dg_len0 {n : Nat} : (dg n).length = 0 ↔ n = 0 := by rw [List.length_eq_zero_iff]; exact dg_nil
/-- Zeros at the end may be taken off. -/
theorem lean_take {l : List Nat} (h : DG l) {k : Nat} (hk : k ≤ l.length) (hv : val (l.take k) = val l) (hl : ∀ h : 0 < k, l[k - 1]'(by omega) ≠ 0) : l.take k = dg (val l) := by
  rw [← hv]
  refine dg_of (h.take k) ?_
  intro e
  have hk0 : 0 < k := by
    rcases Nat.eq_zero_or_pos k with h0 | h0
    · subst h0; simp at e
    · exact h0
  refine hl hk0 ?_
  rw [List.getLast?_eq_getElem?, List.length_take, Nat.min_eq_left hk, List.getElem?_take, if_pos (by omega), List.getElem?_eq_getElem (by omega)] at e
  exact Option.some.inj e
theorem take_succ_val {l : List Nat} {k : Nat} (hk : k < l.length) : val (l.take (k + 1)) = val (l.take k) + 1000000000 ^ k * l[k] := by
  rw [List.take_add_one, List.getElem?_eq_getElem hk]
  show val (l.take k ++ [l[k]]) = _
  rw [val_app, List.length_take, Nat.min_eq_left (by omega)]
  simp [val]
theorem drop_val {l : List Nat} {k : Nat} (hk : k < l.length) : val (l.drop k) = l[k] + 1000000000 * val (l.drop (k + 1)) := by
  rw [List.drop_eq_getElem_cons hk]
  rfl
/-- A longer row of digits without a zero at the end is greater. -/
theorem len_lt {a b : Nat} (h : (dg a).length < (dg b).length) : a < b := by
  have h1 := val_lt (dg_dg a)
  rw [val_dg] at h1
  refine Nat.lt_of_lt_of_le h1 ?_
  have hb : dg b ≠ [] := fun e => by rw [e] at h; simp at h
  obtain ⟨l, d, hl⟩ : ∃ l d, dg b = l ++ [d] := ⟨_, _, (List.dropLast_concat_getLast hb).symm⟩
  have hd : d ≠ 0 := fun e => by
    have := dg_last b
    rw [hl, e] at this
    simp at this
  have hv := val_dg b
  rw [hl, val_app] at hv
  have hle : (dg a).length ≤ l.length := by rw [hl] at h; simp at h; omega
  have h3 : 1000000000 ^ (dg a).length ≤ 1000000000 ^ l.length := Nat.pow_le_pow_right (by omega) hle
  have h4 : val [d] = d := by simp [val]
  rw [h4] at hv
  have h5 : 1000000000 ^ l.length * 1 ≤ 1000000000 ^ l.length * d := Nat.mul_le_mul_left _ (by omega)
  omega
/-- The highest digit that differs decides. -/
theorem digit_lt {a b : List Nat} (ha : DG a) {k : Nat} (hka : k < a.length) (hkb : k < b.length) (h : a.drop (k + 1) = b.drop (k + 1)) (hd : a[k] < b[k]) : val a < val b := by
  have e : ∀ l : List Nat, k < l.length → val l = val (l.take k) + 1000000000 ^ k * (l[k]! + 1000000000 * val (l.drop (k + 1))) := fun l hl => by
    have : l = l.take k ++ l.drop k := (List.take_append_drop k l).symm
    have h2 := congrArg val this
    rw [val_app, List.length_take, Nat.min_eq_left (by omega), drop_val hl] at h2
    rw [h2]
    simp [hl]
  rw [e a hka, e b hkb, h]
  simp only [hka, hkb, getElem!_pos]
  have h1 := val_lt (ha.take k)
  rw [List.length_take, Nat.min_eq_left (by omega)] at h1
  have h2 : 1000000000 ^ k * (a[k] + 1 + 1000000000 * val (b.drop (k + 1))) ≤ 1000000000 ^ k * (b[k] + 1000000000 * val (b.drop (k + 1))) := Nat.mul_le_mul_left _ (by omega)
  have h3 : 1000000000 ^ k * (a[k] + 1 + 1000000000 * val (b.drop (k + 1))) = 1000000000 ^ k + 1000000000 ^ k * (a[k] + 1000000000 * val (b.drop (k + 1))) := by
    rw [show a[k] + 1 + 1000000000 * val (b.drop (k + 1)) = 1 + (a[k] + 1000000000 * val (b.drop (k + 1))) by omega, Nat.mul_add, Nat.mul_one]
  omega
end Nat9
end Go.Proofs.YtpphnnijnnfngaaGreatDoor

/-
  Natural numbers as digits: what one step of each loop of package num keeps.
-/
namespace Go.Proofs.YtpphnnijnnfngaaGreatDoor
namespace Nat9

/-- natural: the digits that are there, and what is left. -/
structure NatI (n : Nat) (o : List Nat) (m : Nat) : Prop where
  ds : DG o
  eq : val o + 1000000000 ^ o.length * m = n
  last : m = 0 → o.getLast? ≠ some 0
theorem NatI.start (n : Nat) : NatI n [] n := ⟨(fun d h => by cases h), by simp [val], fun _ => by simp⟩
theorem NatI.step {n : Nat} {o : List Nat} {m : Nat} (h : NatI n o m) (hm : 0 < m) : NatI n (o ++ [m % 1000000000]) (m / 1000000000) := by
  refine ⟨h.ds.snoc (by omega), ?_, fun h0 => ?_⟩
  · rw [val_app, List.length_append, List.length_singleton, Nat.pow_succ]
    have e : val [m % 1000000000] = m % 1000000000 := by simp [val]
    rw [e, Nat.add_assoc, Nat.mul_assoc, ← Nat.mul_add, Nat.mod_add_div]
    exact h.eq
  · rw [List.getLast?_concat]
    intro e
    have := Option.some.inj e
    omega
theorem NatI.end_ {n : Nat} {o : List Nat} (h : NatI n o 0) : o = dg n := by
  have e := h.eq
  rw [Nat.mul_zero, Nat.add_zero] at e
  rw [← e]
  exact dg_of h.ds (h.last rfl)
/-- plus: the digits that are there, and the carry. -/
structure PlusI (a b : List Nat) (k : Nat) (o : List Nat) (c : Nat) : Prop where
  ds : DG o
  len : o.length = k
  car : c ≤ 1
  eq : val o + 1000000000 ^ k * c = val (a.take k) + val (b.take k)
theorem PlusI.start (a b : List Nat) : PlusI a b 0 [] 0 := ⟨(fun d h => by cases h), rfl, by omega, by simp [val]⟩
theorem take_more {b : List Nat} {k : Nat} (hk : b.length ≤ k) : b.take (k + 1) = b.take k := by rw [List.take_of_length_le hk, List.take_of_length_le (by omega)]
theorem PlusI.both {a b : List Nat} {k : Nat} {o : List Nat} {c : Nat} (h : PlusI a b k o c) (ha : DG a) (hb : DG b) (hka : k < a.length) (hkb : k < b.length) :
    PlusI a b (k + 1) (o ++ [(c + a[k] + b[k]) % 1000000000]) ((c + a[k] + b[k]) / 1000000000) := by
  have h1 := ha.at hka
  have h2 := hb.at hkb
  have h3 := h.car
  refine ⟨h.ds.snoc (by omega), by simp [h.len], by omega, ?_⟩
  rw [val_app, h.len, take_succ_val hka, take_succ_val hkb, Nat.pow_succ]
  have e : val [(c + a[k] + b[k]) % 1000000000] = (c + a[k] + b[k]) % 1000000000 := by simp [val]
  rw [e, Nat.add_assoc, Nat.mul_assoc, ← Nat.mul_add, Nat.mod_add_div, Nat.mul_add, Nat.mul_add]
  have := h.eq
  omega
theorem PlusI.one {a b : List Nat} {k : Nat} {o : List Nat} {c : Nat} (h : PlusI a b k o c) (ha : DG a) (hka : k < a.length) (hkb : b.length ≤ k) :
    PlusI a b (k + 1) (o ++ [(c + a[k]) % 1000000000]) ((c + a[k]) / 1000000000) := by
  have h1 := ha.at hka
  have h3 := h.car
  refine ⟨h.ds.snoc (by omega), by simp [h.len], by omega, ?_⟩
  rw [val_app, h.len, take_succ_val hka, take_more hkb, Nat.pow_succ]
  have e : val [(c + a[k]) % 1000000000] = (c + a[k]) % 1000000000 := by simp [val]
  rw [e, Nat.add_assoc, Nat.mul_assoc, ← Nat.mul_add, Nat.mod_add_div, Nat.mul_add]
  have := h.eq
  omega
/-- The end of plus: the carry, if there is one, is the last digit. -/
theorem PlusI.end_ {x y : Nat} {o : List Nat} {c : Nat} (h : PlusI (dg x) (dg y) (dg x).length o c) (hl : (dg y).length ≤ (dg x).length) : (if 0 < c then o ++ [c] else o) = dg (x + y) := by
  have e := h.eq
  rw [List.take_length, List.take_of_length_le hl, val_dg, val_dg] at e
  have hc := h.car
  split
  · have c1 : c = 1 := by omega
    have hv : val (o ++ [c]) = x + y := by
      rw [val_app, h.len]
      simpa [val] using e
    rw [← hv]
    refine dg_of (h.ds.snoc (by omega)) ?_
    rw [List.getLast?_concat]
    intro q
    have := Option.some.inj q
    omega
  · have c0 : c = 0 := by omega
    rw [c0, Nat.mul_zero, Nat.add_zero] at e
    rw [← e]
    refine dg_of h.ds ?_
    intro q
    -- a zero at the end would mean that the sum is less than its longer part
    obtain ⟨l, hl2⟩ : ∃ l, o = l ++ [0] := by
      have hne : o ≠ [] := fun e => by rw [e] at q; simp at q
      have h2 : o.getLast hne = 0 := by
        rw [List.getLast?_eq_some_getLast hne] at q
        exact Option.some.inj q
      exact ⟨o.dropLast, by rw [← h2]; exact (List.dropLast_concat_getLast hne).symm⟩
    have hlen : l.length + 1 = (dg x).length := by rw [← h.len, hl2]; simp
    have hv : val o < 1000000000 ^ l.length := by
      have hd : DG l := fun d hd => h.ds d (by rw [hl2]; exact List.mem_append_left _ hd)
      have := val_lt hd
      rw [hl2, val_app]
      simpa [val] using this
    have hx : 1000000000 ^ l.length ≤ x := by
      have hne : dg x ≠ [] := fun e => by rw [e] at hlen; simp at hlen
      obtain ⟨m, d, hm⟩ : ∃ m d, dg x = m ++ [d] := ⟨_, _, (List.dropLast_concat_getLast hne).symm⟩
      have hd : d ≠ 0 := fun e => by
        have := dg_last x
        rw [hm, e] at this
        simp at this
      have hv := val_dg x
      have hml : m.length = l.length := by rw [hm] at hlen; simp at hlen; omega
      rw [hm, val_app, hml] at hv
      have h4 : val [d] = d := by simp [val]
      rw [h4] at hv
      have h5 : 1000000000 ^ l.length * 1 ≤ 1000000000 ^ l.length * d := Nat.mul_le_mul_left _ (by omega)
      omega
    omega
/-- minus: the digits that are there, and what was borrowed. -/
structure MinI (a b : List Nat) (k : Nat) (o : List Nat) (c : Nat) : Prop where
  ds : DG o
  len : o.length = k
  car : c ≤ 1
  eq : val o + val (b.take k) = val (a.take k) + 1000000000 ^ k * c
theorem MinI.start (a b : List Nat) : MinI a b 0 [] 0 := ⟨(fun d h => by cases h), rfl, by omega, by simp [val]⟩
theorem MinI.step {a b : List Nat} {k : Nat} {o : List Nat} {c : Nat} (h : MinI a b k o c) (ha : DG a) (hka : k < a.length) {y : Nat} (hy : val (b.take (k + 1)) = val (b.take k) + 1000000000 ^ k * y) (hy9 : y < 1000000000) :
    MinI a b (k + 1) (o ++ [if a[k] < c + y then a[k] + 1000000000 - (c + y) else a[k] - (c + y)]) (if a[k] < c + y then 1 else 0) := by
  have h1 := ha.at hka
  have h3 := h.car
  have he := h.eq
  by_cases hlt : a[k] < c + y
  · rw [if_pos hlt, if_pos hlt]
    refine ⟨h.ds.snoc (by omega), by simp [h.len], by omega, ?_⟩
    rw [val_app, h.len, take_succ_val hka, hy, Nat.pow_succ]
    have e : val [a[k] + 1000000000 - (c + y)] = a[k] + 1000000000 - (c + y) := by simp [val]
    rw [e]
    have e2 : 1000000000 ^ k * (a[k] + 1000000000 - (c + y)) + 1000000000 ^ k * (c + y) = 1000000000 ^ k * a[k] + 1000000000 ^ k * 1000000000 := by
      rw [← Nat.mul_add, ← Nat.mul_add]
      congr 1
      omega
    rw [Nat.mul_add] at e2
    rw [Nat.mul_one]
    omega
  · rw [if_neg hlt, if_neg hlt]
    refine ⟨h.ds.snoc (by omega), by simp [h.len], by omega, ?_⟩
    rw [val_app, h.len, take_succ_val hka, hy, Nat.mul_zero, Nat.add_zero]
    have e : val [a[k] - (c + y)] = a[k] - (c + y) := by simp [val]
    rw [e]
    have e2 : 1000000000 ^ k * (a[k] - (c + y)) + 1000000000 ^ k * (c + y) = 1000000000 ^ k * a[k] := by
      rw [← Nat.mul_add]
      congr 1
      omega
    rw [Nat.mul_add] at e2
    omega
theorem MinI.end_ {x y : Nat} {o : List Nat} {c : Nat} (h : MinI (dg x) (dg y) (dg x).length o c) (hle : y ≤ x) : val o = x - y := by
  have hl : (dg y).length ≤ (dg x).length := by
    rcases Nat.lt_or_ge (dg x).length (dg y).length with h1 | h1
    · have := len_lt h1
      omega
    · exact h1
  have e := h.eq
  rw [List.take_length, List.take_of_length_le hl, val_dg, val_dg] at e
  have hv := val_lt h.ds
  rw [h.len] at hv
  have hc := h.car
  rcases Nat.eq_zero_or_pos c with c0 | c0
  · rw [c0, Nat.mul_zero, Nat.add_zero] at e
    omega
  · have c1 : c = 1 := by omega
    rw [c1, Nat.mul_one] at e
    omega
/-- short: from the top, the quotient's digits and the rest. -/
structure ShI (a : List Nat) (d k : Nat) (o : List Nat) (r : Nat) : Prop where
  ds : DG o
  len : o.length = a.length - k
  lt : r < d
  eq : val (a.drop k) = d * val o + r
theorem ShI.start {a : List Nat} {d : Nat} (hd : 0 < d) : ShI a d a.length [] 0 := ⟨(fun d h => by cases h), by simp, hd, by simp [val]⟩
theorem ShI.step {a : List Nat} {d k : Nat} {o : List Nat} {r : Nat} (h : ShI a d (k + 1) o r) (ha : DG a) (hk : k < a.length) (hd : d < 1000000000) :
    ShI a d k ((r * 1000000000 + a[k]) / d :: o) ((r * 1000000000 + a[k]) % d) := by
  have h1 := ha.at hk
  have h2 := h.lt
  have hlt : (r * 1000000000 + a[k]) / d < 1000000000 := by
    rw [Nat.div_lt_iff_lt_mul (by omega)]
    have : (r + 1) * 1000000000 ≤ d * 1000000000 := Nat.mul_le_mul_right _ h2
    have e : (r + 1) * 1000000000 = r * 1000000000 + 1000000000 := by omega
    rw [Nat.mul_comm 1000000000 d]
    omega
  refine ⟨fun x hx => ?_, ?_, Nat.mod_lt _ (by omega), ?_⟩
  · rcases List.mem_cons.1 hx with rfl | hx
    · exact hlt
    · exact h.ds x hx
  · rw [List.length_cons, h.len]
    omega
  · rw [drop_val hk, h.eq]
    show a[k] + 1000000000 * (d * val o + r) = d * ((r * 1000000000 + a[k]) / d + 1000000000 * val o) + (r * 1000000000 + a[k]) % d
    have e := Nat.div_add_mod (r * 1000000000 + a[k]) d
    have e2 : d * (1000000000 * val o) = 1000000000 * (d * val o) := by rw [← Nat.mul_assoc, Nat.mul_comm d 1000000000, Nat.mul_assoc]
    rw [Nat.mul_add, Nat.mul_add, e2]
    omega
theorem ShI.end_ {x d : Nat} {o : List Nat} {r : Nat} (h : ShI (dg x) d 0 o r) (hd : 0 < d) : val o = x / d ∧ r = x % d := by
  have e := h.eq
  rw [List.drop_zero, val_dg] at e
  have h2 := h.lt
  constructor
  · rw [e, Nat.mul_add_div hd, Nat.div_eq_of_lt h2, Nat.add_zero]
  · rw [e, Nat.mul_add_mod, Nat.mod_eq_of_lt h2]
/-- compare, of digits of numbers. -/
def cmpN (x y : Nat) : Int := if x < y then -1 else if y < x then 1 else 0
theorem cmp_len {x y : Nat} (h : (dg x).length < (dg y).length) : cmpN x y = -1 := by unfold cmpN; rw [if_pos (len_lt h)]
theorem cmp_len' {x y : Nat} (h : (dg y).length < (dg x).length) : cmpN x y = 1 := by
  have := len_lt h
  unfold cmpN
  rw [if_neg (by omega), if_pos this]
theorem cmp_digit {x y : Nat} {k : Nat} (hx : k < (dg x).length) (hy : k < (dg y).length) (h : (dg x).drop (k + 1) = (dg y).drop (k + 1)) (hd : (dg x)[k] < (dg y)[k]) : cmpN x y = -1 := by
  have := digit_lt (dg_dg x) hx hy h hd
  rw [val_dg, val_dg] at this
  unfold cmpN
  rw [if_pos this]
theorem cmp_digit' {x y : Nat} {k : Nat} (hx : k < (dg x).length) (hy : k < (dg y).length) (h : (dg x).drop (k + 1) = (dg y).drop (k + 1)) (hd : (dg y)[k] < (dg x)[k]) : cmpN x y = 1 := by
  have := digit_lt (dg_dg y) hy hx h.symm hd
  rw [val_dg, val_dg] at this
  unfold cmpN
  rw [if_neg (by omega), if_pos this]
theorem cmp_same {x y : Nat} (h : (dg x).drop 0 = (dg y).drop 0) : cmpN x y = 0 := by
  have : x = y := by
    rw [List.drop_zero, List.drop_zero] at h
    rw [← val_dg x, h, val_dg]
  unfold cmpN
  rw [if_neg (by omega), if_neg (by omega)]
/-- times, the inner loop: x times the first k digits of b is added at place i. -/
theorem val_set {l : List Nat} {k : Nat} (hk : k < l.length) (d : Nat) : val (l.set k d) + 1000000000 ^ k * l[k] = val l + 1000000000 ^ k * d := by
  induction l generalizing k with
  | nil => simp at hk
  | cons x l ih =>
    cases k with
    | zero => simp [val]; omega
    | succ k =>
      have hk2 : k < l.length := by simpa using hk
      have h2 := ih hk2
      show x + 1000000000 * val (l.set k d) + 1000000000 ^ (k + 1) * l[k] = x + 1000000000 * val l + 1000000000 ^ (k + 1) * d
      rw [Nat.pow_succ, Nat.mul_comm (1000000000 ^ k) 1000000000, Nat.mul_assoc, Nat.mul_assoc]
      omega
end Nat9
end Go.Proofs.YtpphnnijnnfngaaGreatDoor

/-
  Natural numbers as digits: the product; rational numbers in lowest terms.
-/
namespace Go.Proofs.YtpphnnijnnfngaaGreatDoor
namespace Nat9

/-- times, the inner loop of round i: x times the first k digits of b was added to p at place i. -/
structure TimI (p : List Nat) (x i : Nat) (b : List Nat) (k : Nat) (o : List Nat) (c : Nat) : Prop where
  ds : DG o
  len : o.length = p.length
  car : c < 1000000000
  eq : val o + 1000000000 ^ (i + k) * c = val p + 1000000000 ^ i * (x * val (b.take k))
theorem TimI.start {p : List Nat} (hp : DG p) (x i : Nat) (b : List Nat) : TimI p x i b 0 p 0 := ⟨hp, rfl, by omega, by simp [val]⟩
theorem TimI.step {p : List Nat} {x i : Nat} {b : List Nat} {k : Nat} {o : List Nat} {c : Nat} (h : TimI p x i b k o c) (hb : DG b) (hx : x < 1000000000) (hk : k < b.length) (hi : i + k < o.length) :
    TimI p x i b (k + 1) (o.set (i + k) ((c + (o[i + k] + x * b[k])) % 1000000000)) ((c + (o[i + k] + x * b[k])) / 1000000000) := by
  have h1 := hb.at hk
  have h2 := h.ds.at hi
  have h3 := h.car
  have hxy : x * b[k] ≤ 999999999 * 999999999 := Nat.mul_le_mul (by omega) (by omega)
  refine ⟨h.ds.set _ (by omega), by simp [h.len], by omega, ?_⟩
  have hs := val_set hi ((c + (o[i + k] + x * b[k])) % 1000000000)
  have he := h.eq
  rw [take_succ_val hk]
  have e1 : 1000000000 ^ (i + (k + 1)) * ((c + (o[i + k] + x * b[k])) / 1000000000) = 1000000000 ^ (i + k) * (1000000000 * ((c + (o[i + k] + x * b[k])) / 1000000000)) := by
    rw [← Nat.add_assoc, Nat.pow_succ, Nat.mul_assoc]
  have e2 : 1000000000 ^ (i + k) * ((c + (o[i + k] + x * b[k])) % 1000000000) + 1000000000 ^ (i + k) * (1000000000 * ((c + (o[i + k] + x * b[k])) / 1000000000)) = 1000000000 ^ (i + k) * c + (1000000000 ^ (i + k) * o[i + k] + 1000000000 ^ (i + k) * (x * b[k])) := by
    rw [← Nat.mul_add, Nat.mod_add_div, Nat.mul_add, Nat.mul_add]
  have e3 : 1000000000 ^ i * (x * (val (b.take k) + 1000000000 ^ k * b[k])) = 1000000000 ^ i * (x * val (b.take k)) + 1000000000 ^ (i + k) * (x * b[k]) := by
    rw [Nat.mul_add, Nat.mul_add, Nat.pow_add]
    congr 1
    rw [Nat.mul_assoc]
    congr 1
    rw [Nat.mul_left_comm]
  rw [e1, e3]
  omega
/-- The carry behind the inner loop: it wanders on from place j. -/
structure CarI (t : Nat) (n j : Nat) (o : List Nat) (c : Nat) : Prop where
  ds : DG o
  len : o.length = n
  car : c < 1000000000
  eq : val o + 1000000000 ^ j * c = t
theorem CarI.step {t n j : Nat} {o : List Nat} {c : Nat} (h : CarI t n j o c) (hj : j < o.length) :
    CarI t n (j + 1) (o.set j ((c + o[j]) % 1000000000)) ((c + o[j]) / 1000000000) := by
  have h2 := h.ds.at hj
  have h3 := h.car
  refine ⟨h.ds.set _ (by omega), by simp [h.len], by omega, ?_⟩
  have hs := val_set hj ((c + o[j]) % 1000000000)
  have he := h.eq
  have e1 : 1000000000 ^ (j + 1) * ((c + o[j]) / 1000000000) = 1000000000 ^ j * (1000000000 * ((c + o[j]) / 1000000000)) := by
    rw [Nat.pow_succ, Nat.mul_assoc]
  have e2 : 1000000000 ^ j * ((c + o[j]) % 1000000000) + 1000000000 ^ j * (1000000000 * ((c + o[j]) / 1000000000)) = 1000000000 ^ j * c + 1000000000 ^ j * o[j] := by
    rw [← Nat.mul_add, Nat.mod_add_div, Nat.mul_add]
  rw [e1]
  omega
/-- While there is a carry there is room. -/
theorem CarI.room {t n j : Nat} {o : List Nat} {c : Nat} (h : CarI t n j o c) (ht : t < 1000000000 ^ n) (hc : 0 < c) : j < o.length := by
  rcases Nat.lt_or_ge j o.length with h1 | h1
  · exact h1
  · have h2 : 1000000000 ^ o.length ≤ 1000000000 ^ j := Nat.pow_le_pow_right (by omega) h1
    have h3 : 1000000000 ^ j * 1 ≤ 1000000000 ^ j * c := Nat.mul_le_mul_left _ hc
    have he := h.eq
    rw [h.len] at h2
    omega
/-- What the product stays below. -/
theorem mul_room {a b : List Nat} (ha : DG a) (hb : DG b) {i : Nat} (hi : i < a.length) : val (a.take i) * val b + 1000000000 ^ i * (a[i] * val b) < 1000000000 ^ (a.length + b.length) := by
  have e : val (a.take i) * val b + 1000000000 ^ i * (a[i] * val b) = val (a.take (i + 1)) * val b := by
    rw [take_succ_val hi, Nat.add_mul, Nat.mul_assoc]
  rw [e]
  have h1 := val_lt (ha.take (i + 1))
  have h2 := val_lt hb
  have h3 : 1000000000 ^ (a.take (i + 1)).length ≤ 1000000000 ^ a.length := Nat.pow_le_pow_right (by omega) (by simp; omega)
  rw [Nat.pow_add]
  have hp : 0 < 1000000000 ^ b.length := Nat.pow_pos (by omega)
  calc val (a.take (i + 1)) * val b ≤ val (a.take (i + 1)) * 1000000000 ^ b.length := Nat.mul_le_mul_left _ (Nat.le_of_lt h2)
    _ < 1000000000 ^ a.length * 1000000000 ^ b.length := Nat.mul_lt_mul_of_pos_right (Nat.lt_of_lt_of_le h1 h3) hp

/-- A rational number: its sign, its parts. -/
structure Rat9 where
  m : Bool
  n : Nat
  d : Nat
/-- In lowest terms. -/
def red (m : Bool) (n d : Nat) : Rat9 := if n = 0 then ⟨false, 0, 1⟩ else ⟨m, n / Nat.gcd n d, d / Nat.gcd n d⟩
def addS (am : Bool) (a : Nat) (bm : Bool) (b : Nat) : Bool × Nat := if am = bm then (am, a + b) else if b ≤ a then (am, a - b) else (bm, b - a)
def Rat9.neg (a : Rat9) : Rat9 := ⟨!a.m && decide (0 < a.n), a.n, a.d⟩
def Rat9.add (a b : Rat9) : Rat9 := red (addS a.m (a.n * b.d) b.m (b.n * a.d)).1 (addS a.m (a.n * b.d) b.m (b.n * a.d)).2 (a.d * b.d)
def Rat9.cmp (a b : Rat9) : Int := if (a.add b.neg).n = 0 then 0 else if (a.add b.neg).m then -1 else 1
def ofI (n d : Nat) : Rat9 := red false n d
/-- The examples of the chapter. -/
theorem ex_cmp : (ofI 2 3).cmp (ofI 0 1) = 1 ∧ (ofI 2 3).cmp (ofI 1 1) = -1 ∧ (ofI 0 9).cmp (ofI 2 3) = -1 ∧ (ofI 5 9).cmp (ofI 2 3) = -1 ∧ (ofI 8 9).cmp (ofI 2 3) = 1 := by decide
end Nat9
end Go.Proofs.YtpphnnijnnfngaaGreatDoor

/-
  The cell of a vector: plain facts (what CellOf computes; the cell of a direction is the cell it came from; the direction of a vector's cell lies on its side).
-/
namespace Go.Proofs.YtpphnnijnnfngaaGreatDoor
namespace Cell9

def ab (x : Int) : Int := max x (-x)
def ng (x : Int) : Int := if x < 0 then 1 else 0
/-- The place of a coordinate x beside the greatest magnitude m. -/
def pl (n m x : Int) : Int := min (n - 1) (((x + m) * n).tdiv (2 * m))
/-- The cell of a vector. -/
def cellV (n a b c : Int) : Int :=
  if ab a < ab b then
    (if ab b < ab c then ((4 + ng c) * n + pl n (ab c) a) * n + pl n (ab c) b else ((2 + ng b) * n + pl n (ab b) a) * n + pl n (ab b) c)
  else (if ab a < ab c then ((4 + ng c) * n + pl n (ab c) a) * n + pl n (ab c) b else ((0 + ng a) * n + pl n (ab a) b) * n + pl n (ab a) c)
theorem ab_nonneg (x : Int) : 0 ≤ ab x := by unfold ab; omega
theorem ab_le (x : Int) : x ≤ ab x ∧ -x ≤ ab x := by unfold ab; omega
/-- The place of the i-th of n, whatever the factor. -/
theorem pl_dir {n k i : Int} (hn : 1 ≤ n) (hk : 1 ≤ k) (h0 : 0 ≤ i) (h1 : i < n) : pl n (k * n) (k * (2 * i + 1 - n)) = i := by
  unfold pl
  have hp : 0 < k * n := Int.mul_pos (by omega) (by omega)
  have e1 : (k * (2 * i + 1 - n) + k * n) * n = (k * n) * (2 * i + 1) := by
    rw [← Int.mul_add, show 2 * i + 1 - n + n = 2 * i + 1 by omega, Int.mul_assoc, Int.mul_assoc, Int.mul_comm (2 * i + 1) n]
  have e2 : 2 * (k * n) = (k * n) * 2 := Int.mul_comm _ _
  rw [e1, e2, Int.mul_tdiv_mul_of_pos _ _ hp]
  have e3 : (2 * i + 1).tdiv 2 = i := by
    rw [Int.tdiv_eq_ediv_of_nonneg (by omega)]
    omega
  rw [e3]
  omega
theorem ab_mul {k x : Int} (hk : 0 ≤ k) : ab (k * x) = k * ab x := by
  unfold ab
  rcases Int.le_total 0 x with h | h
  · have : 0 ≤ k * x := Int.mul_nonneg hk h
    rw [Int.max_eq_left (by omega), Int.max_eq_left (by omega)]
  · have h2 : 0 ≤ k * (-x) := Int.mul_nonneg hk (by omega)
    have h3 : k * (-x) = -(k * x) := Int.mul_neg _ _
    rw [Int.max_eq_right (by omega), Int.max_eq_right (by omega), h3]
theorem ab_lt {k n x : Int} (hk : 1 ≤ k) (h : ab x < n) : ab (k * x) < k * n := by
  rw [ab_mul (by omega)]
  exact Int.mul_lt_mul_of_pos_left h (by omega)
theorem ab_side {k n : Int} (hk : 1 ≤ k) (hn : 1 ≤ n) : ab (k * n) = k * n ∧ ab (k * -n) = k * n := by
  have hp : 0 < k * n := Int.mul_pos (by omega) (by omega)
  have h3 : k * (-n) = -(k * n) := Int.mul_neg _ _
  unfold ab
  rw [h3]
  omega
theorem ab_small {n i : Int} (h0 : 0 ≤ i) (h1 : i < n) : ab (2 * i + 1 - n) < n := by unfold ab; omega
theorem ng_side {k n : Int} (hk : 1 ≤ k) (hn : 1 ≤ n) : ng (k * n) = 0 ∧ ng (k * -n) = 1 := by
  have hp : 0 < k * n := Int.mul_pos (by omega) (by omega)
  have h3 : k * (-n) = -(k * n) := Int.mul_neg _ _
  unfold ng
  rw [h3]
  omega
/-- The cell of the directions of the six faces. -/
theorem home {n k i j : Int} (hn : 1 ≤ n) (hk : 1 ≤ k) (hi : 0 ≤ i) (hi2 : i < n) (hj : 0 ≤ j) (hj2 : j < n) :
    cellV n (k * n) (k * (2 * i + 1 - n)) (k * (2 * j + 1 - n)) = (0 * n + i) * n + j ∧ cellV n (k * -n) (k * (2 * i + 1 - n)) (k * (2 * j + 1 - n)) = (1 * n + i) * n + j ∧
    cellV n (k * (2 * i + 1 - n)) (k * n) (k * (2 * j + 1 - n)) = (2 * n + i) * n + j ∧ cellV n (k * (2 * i + 1 - n)) (k * -n) (k * (2 * j + 1 - n)) = (3 * n + i) * n + j ∧
    cellV n (k * (2 * i + 1 - n)) (k * (2 * j + 1 - n)) (k * n) = (4 * n + i) * n + j ∧ cellV n (k * (2 * i + 1 - n)) (k * (2 * j + 1 - n)) (k * -n) = (5 * n + i) * n + j := by
  have a1 := ab_lt hk (ab_small hi hi2)
  have a2 := ab_lt hk (ab_small hj hj2)
  obtain ⟨s1, s2⟩ := ab_side hk hn
  obtain ⟨g1, g2⟩ := ng_side hk hn
  have p1 := pl_dir hn hk hi hi2
  have p2 := pl_dir hn hk hj hj2
  have n1 : ¬ k * n < ab (k * (2 * i + 1 - n)) := by omega
  have n2 : ¬ k * n < ab (k * (2 * j + 1 - n)) := by omega
  refine ⟨?_, ?_, ?_, ?_, ?_, ?_⟩ <;> unfold cellV
  · rw [s1, if_neg n1, if_neg n2, g1, p1, p2]; rfl
  · rw [s2, if_neg n1, if_neg n2, g2, p1, p2]; rfl
  · rw [s1, if_pos a1, if_neg n2, g1, p1, p2]; rfl
  · rw [s2, if_pos a1, if_neg n2, g2, p1, p2]; rfl
  · rw [s1, g1, p1, p2]
    split <;> first | rfl | (rw [if_pos a2]; rfl) | (rw [if_pos a1]; rfl)
  · rw [s2, g2, p1, p2]
    split <;> first | rfl | (rw [if_pos a2]; rfl) | (rw [if_pos a1]; rfl)
/-- A place is one of n. -/
theorem pl_in {n m x : Int} (hn : 1 ≤ n) (hm : 0 < m) (hx : -m ≤ x) : 0 ≤ pl n m x ∧ pl n m x < n := by
  unfold pl
  have h : 0 ≤ ((x + m) * n).tdiv (2 * m) := Int.tdiv_nonneg (Int.mul_nonneg (by omega) (by omega)) (by omega)
  omega
/-- The direction at a coordinate's place, times the coordinate, falls short of nothing by much. -/
theorem pl_dot {n m x : Int} (hn : 1 ≤ n) (hm : 0 < m) (h1 : -m ≤ x) (h2 : x ≤ m) : n * (x * x) - m * ab x ≤ m * ((2 * pl n m x + 1 - n) * x) := by
  obtain ⟨q, hq⟩ : ∃ q, ((x + m) * n).tdiv (2 * m) = q := ⟨_, rfl⟩
  have hnn : 0 ≤ (x + m) * n := Int.mul_nonneg (by omega) (by omega)
  have hq0 : 2 * m * q ≤ (x + m) * n ∧ (x + m) * n < 2 * m * q + 2 * m := by
    rw [Int.tdiv_eq_ediv_of_nonneg hnn] at hq
    have e := Int.mul_ediv_add_emod ((x + m) * n) (2 * m)
    have r1 := Int.emod_nonneg ((x + m) * n) (show 2 * m ≠ 0 by omega)
    have r2 := Int.emod_lt_of_pos ((x + m) * n) (show 0 < 2 * m by omega)
    rw [hq] at e
    omega
  have hmm : pl n m x = min (n - 1) q := by unfold pl; rw [hq]
  rw [hmm]
  have ex : (x + m) * n = n * x + m * n := by rw [Int.add_mul, Int.mul_comm x n]
  rw [ex] at hq0
  obtain ⟨b1, b2⟩ := hq0
  have e2 : 2 * m * q = m * (2 * q) := by rw [Int.mul_comm 2 m, Int.mul_assoc]
  rw [e2] at b1 b2
  -- the place is q, or n - 1 where x = m
  rcases (show n - 1 < q ∨ q ≤ n - 1 by omega) with hb | hb
  · rw [Int.min_eq_left (by omega)]
    have hx : x = m := by
      have h3 : m * (2 * n) ≤ m * (2 * q) := Int.mul_le_mul_of_nonneg_left (by omega) (by omega)
      have h4 : m * (2 * n) = m * n + n * m := by rw [show 2 * n = n + n by omega, Int.mul_add, Int.mul_comm m n]
      have h5 : n * m ≤ n * x := by omega
      have h6 := Int.le_of_mul_le_mul_left h5 (by omega)
      omega
    subst hx
    have e3 : 2 * (n - 1) + 1 - n = n - 1 := by omega
    have e4 : ab x = x := by unfold ab; omega
    rw [e3, e4, Int.sub_mul, Int.one_mul, Int.mul_sub]
    have e5 : x * (n * x) = n * (x * x) := by rw [← Int.mul_assoc, Int.mul_comm x n, Int.mul_assoc]
    rw [e5]
    omega
  · rw [Int.min_eq_right (by omega)]
    have em : m * ((2 * q + 1 - n) * x) = (m * (2 * q) + m - m * n) * x := by
      rw [← Int.mul_assoc, Int.mul_sub, Int.mul_add, Int.mul_one]
    rw [em]
    rcases Int.le_total 0 x with hx | hx
    · have e4 : ab x = x := by unfold ab; omega
      rw [e4]
      have h3 : (n * x - m) * x ≤ (m * (2 * q) + m - m * n) * x := Int.mul_le_mul_of_nonneg_right (by omega) hx
      rw [Int.sub_mul, Int.mul_assoc] at h3
      exact h3
    · have e4 : ab x = -x := by unfold ab; omega
      rw [e4]
      have h3 : (n * x + m) * x ≤ (m * (2 * q) + m - m * n) * x := Int.mul_le_mul_of_nonpos_right (by omega) hx
      rw [Int.add_mul, Int.mul_assoc] at h3
      have e5 : m * -x = -(m * x) := Int.mul_neg _ _
      omega
/-- The direction of a vector's cell lies on the vector's side. -/
theorem side_pos {n m x y : Int} (hn : 1 ≤ n) (hm : 0 < m) (h1 : -m ≤ x) (h2 : x ≤ m) (h3 : -m ≤ y) (h4 : y ≤ m) : 0 < n * m + (2 * pl n m x + 1 - n) * x + (2 * pl n m y + 1 - n) * y := by
  have hx := pl_dot hn hm h1 h2
  have hy := pl_dot hn hm h3 h4
  obtain ⟨u, hu⟩ : ∃ u, (2 * pl n m x + 1 - n) * x = u := ⟨_, rfl⟩
  obtain ⟨v, hv⟩ : ∃ v, (2 * pl n m y + 1 - n) * y = v := ⟨_, rfl⟩
  rw [hu] at hx ⊢
  rw [hv] at hy ⊢
  clear hu hv
  have sq : ∀ z : Int, 0 ≤ z * z := fun z => by
    rcases Int.le_total 0 z with h | h
    · exact Int.mul_nonneg h h
    · exact Int.mul_nonneg_of_nonpos_of_nonpos h h
  have key : ∀ z : Int, 4 * (m * ab z) ≤ m * m + 4 * (n * (z * z)) := fun z => by
    have ea : ab z * ab z = z * z := by
      unfold ab
      rcases Int.le_total 0 z with h | h
      · rw [Int.max_eq_left (by omega)]
      · rw [Int.max_eq_right (by omega), Int.neg_mul_neg]
    have h := sq (2 * ab z - m)
    have e : (2 * ab z - m) * (2 * ab z - m) = 4 * (ab z * ab z) - 4 * (m * ab z) + m * m := by
      rw [Int.sub_mul, Int.mul_sub, Int.mul_sub]
      have e1 : 2 * ab z * (2 * ab z) = 4 * (ab z * ab z) := by rw [Int.mul_assoc, Int.mul_left_comm (ab z) 2, ← Int.mul_assoc]; rfl
      have e2 : 2 * ab z * m = 2 * (m * ab z) := by rw [Int.mul_assoc, Int.mul_comm (ab z) m]
      have e3 : m * (2 * ab z) = 2 * (m * ab z) := by rw [Int.mul_left_comm]
      omega
    rw [e, ea] at h
    have h5 : 1 * (z * z) ≤ n * (z * z) := Int.mul_le_mul_of_nonneg_right hn (sq z)
    omega
  have kx := key x
  have ky := key y
  have hmm : 0 < m * m := Int.mul_pos hm hm
  have hnm : 1 * (m * m) ≤ n * (m * m) := Int.mul_le_mul_of_nonneg_right hn (by omega)
  have hp : 0 < m * (n * m + u + v) := by
    have e : m * (n * m + u + v) = n * (m * m) + m * u + m * v := by
      rw [Int.mul_add, Int.mul_add, Int.mul_left_comm]
    rw [e]
    omega
  rcases (show 0 < n * m + u + v ∨ n * m + u + v ≤ 0 by omega) with h | h
  · exact h
  · have := Int.mul_nonpos_of_nonneg_of_nonpos (show 0 ≤ m by omega) h
    omega
end Cell9
end Go.Proofs.YtpphnnijnnfngaaGreatDoor

/-
  Rows of the call's own memory: words that all walks share (for seats without package alert).
-/
namespace Go.Proofs.YtpphnnijnnfngaaGreatDoor
open Go.RowKit Al

theorem run_append_sl {P : Program} (w : World) (base : Nat) (t ty e : TypeId) (i : TypeInfo) (z : Value) (size bytes : Nat) (ht : P.underlying t = some (.slice e)) (hi : P.info? e = some i) (hz : i.zero = some z)
    (hsize : i.size = size) (hby : i.bytes = bytes) (hzs : z.cells.size = size) (hsz : 0 < size)
    (v : Value) (n : Nat) (xs : List Value) (hown : w.ownsRow base e size v n xs) (B : Nat) (A : Option Addr) (m c : Nat) (news : List Value) (hs : Sl w B size A m c news)
    (h1 : ∀ u ∈ news, u.oneCell' = true) (h63 : n + m ≤ maxLen) (hbytes : (n + m) * bytes ≤ 140737488355328) (hbase : base ≤ w.heap.size) :
    ∃ v' w', (Builtin.append_ #[t, t] ty #[v, .slice A m c]).run P w = .ok v' w' ∧ w'.ownsRow base e size v' (n + m) (xs ++ news) ∧ w.grownBy w' v.ownBlock ∧ (v'.ownBlock = v.ownBlock ∨ v'.ownBlock = some w.heap.size) := by
  cases A with
  | none =>
    have hc := hs.nil_ rfl
    subst hc
    have hm : m = 0 := by have := hs.cap; omega
    subst hm
    have hn : news = [] := List.eq_nil_of_length_eq_zero (by have := hs.len; omega)
    subst hn
    exact ⟨v, w, run_append_owned_none w base t ty e i size ht hi v n xs hown, by simpa using hown, World.grownBy.refl w _, .inl rfl⟩
  | some ad =>
    have hcells : ∀ j u, news[j]? = some u → w.cell? (ad.add j) = some u := by
      intro j u hu
      have hm : 0 < m := by
        rcases Nat.eq_zero_or_pos m with h0 | h0
        · subst h0
          have : news = [] := List.eq_nil_of_length_eq_zero (by have := hs.len; omega)
          subst this
          cases hu
        · exact h0
      obtain ⟨b, off, he, _, hc⟩ := hs.at_ hm
      cases he
      have ha : (⟨b, off, none⟩ : Addr).add j = ⟨b, off + j, none⟩ := Addr.add_lit ..
      rw [ha]
      exact hc j u hu
    obtain ⟨v', w', k1, k2, k3, _, k5⟩ := run_append_own_at (P := P) w base t ty e i z size bytes ht hi hz hsize hby hzs hsz v n xs hown ad m c news hs.len hcells h1 h63 hbytes hbase
    exact ⟨v', w', k1, k2, k3, k5⟩

theorem wpList_append_sl {P : Program} {w : World} {ops : Array Oper} {rest : List Oper} {o : Oper} {a : Act} {Q : Exit → Act → World → Prop} (hgd : o.guard = none) (s x : Operand) (t : TypeId)
    (ho : o.op = .call { callee := .builtin .append, args := #[s, x], argTypes := #[t, t] })
    (base : Nat) (e : TypeId) (i : TypeInfo) (z : Value) (size bytes : Nat) (ht : P.underlying t = some (.slice e)) (hi : P.info? e = some i) (hz : i.zero = some z)
    (hsize : i.size = size) (hby : i.bytes = bytes) (hzs : z.cells.size = size) (hsz : 0 < size)
    (v : Value) (n : Nat) (xs : List Value) (hs : a.eval s = v) (hown : w.ownsRow base e size v n xs)
    (B : Nat) (A : Option Addr) (m c : Nat) (news : List Value) (hx : a.eval x = .slice A m c) (hsl : Sl w B size A m c news) (h1 : ∀ u ∈ news, u.oneCell' = true)
    (h63 : n + m ≤ maxLen) (hbytes : (n + m) * bytes ≤ 140737488355328) (hbase : base ≤ w.heap.size)
    (h : ∀ v' w', w'.ownsRow base e size v' (n + m) (xs ++ news) → w.grownBy w' v.ownBlock → (v'.ownBlock = v.ownBlock ∨ v'.ownBlock = some w.heap.size) → wpList P ops Q rest (a.put o.dst v') w') :
    wpList P ops Q (o :: rest) a w := by
  refine wpList_plain hgd fun K hK => ?_
  obtain ⟨v', w', hr, h2, h3, h5⟩ := run_append_sl (P := P) w base t o.type e i z size bytes ht hi hz hsize hby hzs hsz v n xs hown B A m c news hsl h1 h63 hbytes hbase
  unfold Oper.wp
  simp [execOp, ho, resolve, invoke, builtin, hs, hx, hr, Result.andThen]
  exact hK _ _ (h v' w' h2 h3 h5)

theorem own_form {w : World} {base : Nat} {e : TypeId} {size : Nat} {v : Value} {n : Nat} {xs : List Value} (h : w.ownsRow base e size v n xs) : ∃ A c, v = .slice A n c := by
  rcases h.2 with ⟨rfl, rfl⟩ | ⟨g, cap, cur, rfl, _⟩
  · exact ⟨none, 0, rfl⟩
  · exact ⟨_, _, rfl⟩
theorem own_more {w : World} {base base' : Nat} {e : TypeId} {size : Nat} {v : Value} {n : Nat} {xs : List Value} (h : w.ownsRow base e size v n xs) (hb : base' ≤ base) : w.ownsRow base' e size v n xs := by
  refine ⟨h.1, ?_⟩
  rcases h.2 with h2 | ⟨g, cap, cur, hv, hg, r⟩
  · exact .inl h2
  · exact .inr ⟨g, cap, cur, hv, by omega, r⟩
theorem ints_one (l : List Int) : ∀ u ∈ ints l, u.oneCell' = true := by
  intro u hu
  obtain ⟨k, _, rfl⟩ := List.mem_map.1 hu
  rfl
theorem infoInt : (Tryz.prog.info? 3).map (fun i => (i.zero, i.size, i.bytes)) = some (some (.int .i64 0), 1, 8) := by kernel_rfl
theorem own_lt {w : World} {base e sz n g : Nat} {v : Value} {xs : List Value} (h : w.ownsRow base e sz v n xs) (hg : v.ownBlock = some g) : base ≤ g ∧ g < w.heap.size := by
  rcases h.2 with ⟨rfl, _⟩ | ⟨g', cap, cur, rfl, hb, hh, _⟩
  · cases hg
  · cases hg; exact ⟨hb, (Array.getElem?_eq_some_iff.1 hh).1⟩
end Go.Proofs.YtpphnnijnnfngaaGreatDoor

/-
  Natural numbers of package num in memory; the walk of natural.
-/
namespace Go.Proofs.YtpphnnijnnfngaaGreatDoor
open Go.RowKit Al Nat9

/-- The cells of digits. -/
def u64s (l : List Nat) : List Value := l.map fun d : Nat => .int .u64 (d : Int)
theorem u64s_len (l : List Nat) : (u64s l).length = l.length := by simp [u64s]
theorem u64s_at {l : List Nat} {k : Nat} (h : k < l.length) : (u64s l)[k]? = some (.int .u64 (l[k] : Int)) := by simp [u64s, h]
theorem u64s_app (l m : List Nat) : u64s (l ++ m) = u64s l ++ u64s m := by simp [u64s]
theorem u64s_one (l : List Nat) : ∀ u ∈ u64s l, u.oneCell' = true := by
  intro u hu
  obtain ⟨k, _, rfl⟩ := List.mem_map.1 hu
  rfl
theorem infoU64 : (Tryz.prog.info? 157).map (fun i => (i.zero, i.size, i.bytes)) = some (some (.int .u64 0), 1, 8) := by kernel_rfl
theorem Sl.u64_at {w : World} {B n c : Nat} {A : Option Addr} {l : List Nat} (h : Sl w B 1 A n c (u64s l)) {k : Nat} (hl : k < l.length) : ∃ b off, A = some ⟨b, off, none⟩ ∧ b < B ∧ w.cell? ⟨b, off + k, none⟩ = some (.int .u64 (l[k] : Int)) := by
  have hn : n = l.length := by have := h.len; rw [u64s_len] at this; omega
  obtain ⟨b, off, e, hb, hc⟩ := h.at_ (by omega)
  exact ⟨b, off, e, hb, hc k _ (u64s_at hl)⟩
/-- A slice reads as digits, which lie below block B, in a block of digits. -/
structure S64 (w : World) (B : Nat) (A : Option Addr) (n c : Nat) (l : List Nat) : Prop where
  sl : Sl w B 1 A n c (u64s l)
  tag : 0 < n → ∃ b o cs fr, A = some ⟨b, o, none⟩ ∧ b < B ∧ w.heap[b]? = some (.cells cs 157 fr)
theorem S64.cap {w : World} {B n c : Nat} {A : Option Addr} {l : List Nat} (h : S64 w B A n c l) : n ≤ c := h.sl.cap
theorem S64.max {w : World} {B n c : Nat} {A : Option Addr} {l : List Nat} (h : S64 w B A n c l) : c ≤ maxLen := h.sl.max
theorem S64.nil_ {w : World} {B n c : Nat} {A : Option Addr} {l : List Nat} (h : S64 w B A n c l) : A = none → c = 0 := h.sl.nil_
theorem S64.u64_at {w : World} {B n c : Nat} {A : Option Addr} {l : List Nat} (h : S64 w B A n c l) {k : Nat} (hl : k < l.length) : ∃ b off, A = some ⟨b, off, none⟩ ∧ b < B ∧ w.cell? ⟨b, off + k, none⟩ = some (.int .u64 (l[k] : Int)) := Sl.u64_at h.sl hl
theorem S64.below {w w' : World} {B n c : Nat} {A : Option Addr} {l : List Nat} (h : S64 w B A n c l) (hb : Below B w w') : S64 w' B A n c l :=
  ⟨Sl.below h.sl hb, fun h0 => by
    obtain ⟨b, o, cs, fr, e, hB, ht⟩ := h.tag h0
    exact ⟨b, o, cs, fr, e, hB, by rw [hb.block b hB]; exact ht⟩⟩
theorem S64.more {w : World} {B B' n c : Nat} {A : Option Addr} {l : List Nat} (h : S64 w B A n c l) (hB : B ≤ B') : S64 w B' A n c l :=
  ⟨Sl.more h.sl hB, fun h0 => by
    obtain ⟨b, o, cs, fr, e, hb, ht⟩ := h.tag h0
    exact ⟨b, o, cs, fr, e, by omega, ht⟩⟩
theorem S64.of_own {w : World} {base n c : Nat} {A : Option Addr} {l : List Nat} (h : w.ownsRow base 157 1 (.slice A n c) n (u64s l)) : S64 w w.heap.size A n c l :=
  ⟨Sl.of_own h, fun h0 => by
    rcases h.2 with ⟨_, h2⟩ | ⟨g, cap, cur, hv, hg, hh, _⟩
    · omega
    · cases hv
      exact ⟨g, 0, cur, (0, 0), rfl, (Array.getElem?_eq_some_iff.1 hh).1, hh⟩⟩
theorem S64.takeU {w : World} {B n c : Nat} {A : Option Addr} {l : List Nat} (h : S64 w B A n c l) {k : Nat} (hk : k ≤ l.length) : S64 w B A k c (l.take k) := by
  have hn : n = l.length := by have := h.sl.len; rw [u64s_len] at this; omega
  refine ⟨⟨by rw [u64s_len, List.length_take]; omega, Nat.le_trans hk (hn ▸ h.cap), h.max, h.nil_, fun h0 => ?_⟩, fun h0 => h.tag (by omega)⟩
  obtain ⟨b, off, e, hb, hc⟩ := h.sl.at_ (by omega)
  refine ⟨b, off, e, hb, fun j u hu => hc j u ?_⟩
  have hj : j < k := by
    have := (List.getElem?_eq_some_iff.1 hu).1
    rw [u64s_len, List.length_take] at this
    omega
  rw [← hu]
  unfold u64s
  simp [hj]
/-- A natural number lies in memory. -/
def NaIn (w : World) (A : Option Addr) (c v : Nat) : Prop := S64 w w.heap.size A (dg v).length c (dg v)
theorem NaIn.below {w w' : World} {A : Option Addr} {c v : Nat} (h : NaIn w A c v) (hb : Below w.heap.size w w') : NaIn w' A c v := (S64.below h hb).more hb.size
/-- A natural number is handed back. -/
def NaT (v : Nat) (w : World) (e : Ending) (w' : World) : Prop := ∃ A c, e = .returned (.slice A (dg v).length c) ∧ NaIn w' A c v ∧ Below w.heap.size w w'
def NatRel (n : Nat) (w : World) (o i : Value) (wr : World) : Prop :=
  ∃ (l : List Nat) (m : Nat) (A : Option Addr) (c : Nat), o = .slice A l.length c ∧ i = .int .u64 (m : Int) ∧ NatI n l m ∧ Hid (wr.ownsRow w.heap.size 157 1 (.slice A l.length c) l.length (u64s l)) ∧ Hid (Below w.heap.size w wr)
theorem Nat9.NatI.short {n : Nat} {l : List Nat} {m : Nat} (h : NatI n l m) (hn : n < 18446744073709551616) (hm : 0 < m) : l.length ≤ 2 := by
  rcases Nat.lt_or_ge 2 l.length with h2 | h2
  · have h3 : 1000000000 ^ 3 ≤ 1000000000 ^ l.length := Nat.pow_le_pow_right (by omega) h2
    have h4 : 1000000000 ^ l.length * 1 ≤ 1000000000 ^ l.length * m := Nat.mul_le_mul_left _ hm
    have h5 := h.eq
    have h6 : (1000000000 : Nat) ^ 3 = 1000000000000000000000000000 := by decide
    omega
  · exact h2
theorem u64wrap {x : Int} (h0 : 0 ≤ x) (h1 : x < 18446744073709551616) : IntKind.u64.wrap x = x := IntWalk.u64_in x ⟨h0, by omega⟩
theorem Nat9.NatI.le {n : Nat} {l : List Nat} {m : Nat} (h : NatI n l m) : m ≤ n := by
  have h4 : 1 * m ≤ 1000000000 ^ l.length * m := Nat.mul_le_mul_right _ (Nat.pow_pos (by omega))
  have h5 := h.eq
  omega
theorem u64mod (m : Nat) : (m : Int).tmod 1000000000 = ((m % 1000000000 : Nat) : Int) := by
  rw [Int.tmod_eq_emod_of_nonneg (by omega)]
  omega
theorem u64div (m : Nat) : (m : Int).tdiv 1000000000 = ((m / 1000000000 : Nat) : Int) := by
  rw [Int.tdiv_eq_ediv_of_nonneg (by omega)]
  omega
set_option maxRecDepth 100000 in
set_option maxHeartbeats 1000000 in
theorem natural_ (n : Nat) (w : World) (hn : n < 18446744073709551616) : Calls Tryz.prog 87 #[.int .u64 (n : Int)] w (NaT n w) := by
  obtain ⟨i0, hi, hz0, hz1, hz2⟩ := info_parts infoU64
  go_enter Tryz.func87, Tryz.ntmps87
  go_wp2_with fail
  go_loopw [0, 3] (fun i o wr => NatRel n w o i wr) (fun i _ _ => (intOf i).toNat)
  case atStart => exact ⟨[], n, none, 0, rfl, rfl, NatI.start n, Lib.hid (World.ownsRow_nil _ _ _ _), Lib.hid (Below.refl _ _)⟩
  case round =>
    obtain ⟨l, m, A, c, rfl, rfl, hI, HO, HB⟩ := hrel
    have hsz := HB.out.size
    have HI := Lib.hid hI
    clear hI
    by_cases hm : 0 < m
    · have hl := HI.out.short hn hm
      have hmn := HI.out.le
      have m0 : (0 : Int) < (m : Int) := by omega
      have e1 := u64mod m
      have e2 := u64div m
      have m1 : m % 1000000000 < 1000000000 := by omega
      have HR : Hid (u64s (l ++ [m % 1000000000]) = u64s l ++ [.int .u64 ((m % 1000000000 : Nat) : Int)]) := u64s_app l [m % 1000000000]
      have HN := Lib.hid (HI.out.step hm)
      go_wp2_with (at_builtin; go_must (refine wpList_append_lies _ rfl _ _ 67 rfl w.heap.size 157 i0 (.int .u64 0) 1 8 Tryz.underlying67 hi hz0 hz1 hz2 rfl (by decide) (.slice A l.length c) l.length (u64s l) rfl (own_below HO.out (Nat.le_refl _) ((Below.refl _ _).alloc (Nat.le_refl _) _)) _ 1 1 [.int .u64 ((m % 1000000000 : Nat) : Int)] rfl rfl (World.news_of_block (heap_alloc_new wr _)) (by intro u hu; rw [List.mem_singleton.1 hu]; rfl) (by decide) (by unfold maxLen; omega) (by omega) (by simp; omega) _ rfl ?_); intro g cap w6 hown6 hg6 hat6 hlt6; have z6 := hg6.size; (try simp at z6))
      go_roundw
      case rel =>
        refine ⟨l ++ [m % 1000000000], m / 1000000000, some ⟨g, 0, none⟩, cap, by simp, ?_, HN.out, Lib.hid ?_, Lib.hid ((HB.out.alloc hsz _).grown hg6 (by simp; omega) (fun g h => (own_lt HO.out h).1))⟩
        · rfl
        · rw [HR.out, show (l ++ [m % 1000000000]).length = l.length + 1 by simp]
          exact hown6
      case measure =>
        simp [intOf]
        omega
    · obtain rfl : m = 0 := by omega
      go_wp2_with fail
      go_ret
      have h := HI.out.end_
      have h2 := S64.of_own HO.out
      rw [h] at h2 ⊢
      exact ⟨A, c, rfl, h2, HB.out⟩
end Go.Proofs.YtpphnnijnnfngaaGreatDoor

/-
  Natural numbers of package num: the walks of lean and compare.
-/
namespace Go.Proofs.YtpphnnijnnfngaaGreatDoor
open Go.RowKit Al Nat9

def LeanRel (l : List Nat) (A : Option Addr) (c : Nat) (w : World) (i : Value) (wr : World) : Prop := ∃ k : Nat, k ≤ l.length ∧ i = .slice A k c ∧ val (l.take k) = val l ∧ Hid (Below w.heap.size w wr)
set_option maxRecDepth 100000 in
set_option maxHeartbeats 1000000 in
theorem lean_ (l : List Nat) (A : Option Addr) (c : Nat) (w : World) (hd : DG l) (h : S64 w w.heap.size A l.length c l) : Calls Tryz.prog 121 #[.slice A l.length c] w (NaT (val l) w) := by
  have HS := Lib.hid h
  have HD := Lib.hid hd
  have hmx : l.length ≤ 9223372036854775807 := Nat.le_trans h.cap h.max
  have hcm : c ≤ 9223372036854775807 := h.max
  have hcl := h.cap
  clear h hd
  go_enter Tryz.func121, Tryz.ntmps121
  go_wp2_with fail
  go_loopw [0] (fun i wr => LeanRel l A c w i wr) (fun i _ => match i with | .slice _ k _ => k | _ => 0)
  case atStart => exact ⟨l.length, Nat.le_refl _, rfl, by rw [List.take_length], Lib.hid (Below.refl _ _)⟩
  case round =>
    obtain ⟨k, hk, rfl, hv, HB⟩ := hrel
    have hsz := HB.out.size
    cases k with
    | zero =>
      go_wp2_with fail
      go_ret
      have e := lean_take HD.out hk hv (fun h => absurd h (by omega))
      have h2 := (S64.takeU (HS.out.below HB.out) hk).more hsz
      have hle : (dg (val l)).length = 0 := by rw [← e]; simp
      rw [e] at h2
      refine ⟨A, c, by rw [hle]; rfl, ?_, HB.out⟩
      unfold NaIn
      rw [hle]
      exact h2
    | succ m =>
      have hm : m < l.length := by omega
      obtain ⟨b, off, rfl, hb, z0⟩ := (HS.out.below HB.out).u64_at hm
      have hb2 : b < wr.heap.size := by omega
      have m0 : (0 : Int) ≤ (m : Int) := by omega
      have m1 : (m : Int) + 1 ≤ (c : Int) := by omega
      obtain ⟨d, hdd⟩ : ∃ d, l[m] = d := ⟨_, rfl⟩
      rw [hdd] at z0
      by_cases hz : d = 0
      · subst hz
        have e2 : val (l.take m) = val l := by
          rw [take_succ_val hm, hdd] at hv
          simpa using hv
        go_wp2_with fail
        go_roundw
        case rel => exact ⟨m, by omega, rfl, e2, HB⟩
        case measure => exact Nat.lt_succ_self m
      · have hz1 : ((d : Int) == 0) = false := by simpa using hz
        go_wp2_with fail
        go_ret
        have e := lean_take HD.out hk hv (fun _ => by simpa [hdd] using hz)
        have h2 := (S64.takeU (HS.out.below HB.out) hk).more hsz
        have hle : (dg (val l)).length = m + 1 := by rw [← e, List.length_take]; omega
        rw [e] at h2
        refine ⟨_, c, by rw [hle]; rfl, ?_, HB.out⟩
        unfold NaIn
        rw [hle]
        exact h2
def CmpRel (x y : Nat) (w : World) (i : Value) (wr : World) : Prop := ∃ k : Nat, k ≤ (dg x).length ∧ i = .int .i64 ((k : Int) - 1) ∧ (dg x).drop k = (dg y).drop k ∧ ∃ n, wr = w.drewN n
set_option maxRecDepth 100000 in
set_option maxHeartbeats 1000000 in
theorem compare_ (x y : Nat) (A D : Option Addr) (c d : Nat) (w : World) (ha : NaIn w A c x) (hb : NaIn w D d y) : Calls Tryz.prog 119 #[.slice A (dg x).length c, .slice D (dg y).length d] w fun e w' => e = .returned (.int .i64 (cmpN x y)) ∧ Below w.heap.size w w' := by
  have HA := Lib.hid ha
  have HB := Lib.hid hb
  have hxm : (dg x).length ≤ 9223372036854775807 := Nat.le_trans (S64.cap ha) (S64.max ha)
  have hym : (dg y).length ≤ 9223372036854775807 := Nat.le_trans (S64.cap hb) (S64.max hb)
  clear ha hb
  obtain ⟨la, hla⟩ : ∃ l, dg x = l := ⟨_, rfl⟩
  obtain ⟨lb, hlb⟩ : ∃ l, dg y = l := ⟨_, rfl⟩
  have HLA := Lib.hid hla
  have HLB := Lib.hid hlb
  unfold NaIn at HA HB
  rw [hla] at HA hxm ⊢
  rw [hlb] at HB hym ⊢
  clear hla hlb
  rcases Nat.lt_trichotomy la.length lb.length with hl | hl | hl
  · have hc : cmpN x y = -1 := cmp_len (by rw [HLA.out, HLB.out]; exact hl)
    rw [hc]
    have h1 : ((la.length : Int) != (lb.length : Int)) = true := by simp; omega
    have h2 : (la.length != lb.length) = true := by simp; omega
    have h3 : (la.length : Int) < (lb.length : Int) := by omega
    go_enter Tryz.func119, Tryz.ntmps119
    go_wp2_with fail
    go_ret
    exact ⟨rfl, Below.refl _ _⟩
  · go_enter Tryz.func119, Tryz.ntmps119
    go_wp2_with fail
    go_loopw [5] (fun i wr => CmpRel x y w i wr) (fun i _ => (intOf i + 1).toNat)
    case atStart =>
      refine ⟨lb.length, by rw [HLA.out]; omega, by first | rfl | go_num, ?_, 0, rfl⟩
      rw [HLA.out, HLB.out, List.drop_of_length_le (by omega), List.drop_of_length_le (Nat.le_refl _)]
    case round =>
      obtain ⟨k, hk, rfl, hdr, n, rfl⟩ := hrel
      cases k with
      | zero =>
        have hc : cmpN x y = 0 := cmp_same hdr
        go_wp2_with fail
        go_ret
        exact ⟨by rw [hc]; rfl, below_drewN (Below.refl _ _) n⟩
      | succ m =>
        have HDR := Lib.hid hdr
        have hka : m < la.length := by rw [HLA.out] at hk; omega
        have hkb : m < lb.length := by omega
        clear hdr hk
        obtain ⟨b1, o1, rfl, hb1, hc1⟩ := HA.out.u64_at hka
        obtain ⟨b2, o2, rfl, hb2, hc2⟩ := HB.out.u64_at hkb
        have i0 : (0 : Int) ≤ (m : Int) := by omega
        have i1 : (m : Int) < (la.length : Int) := by omega
        have i2 : (m : Int) < (lb.length : Int) := by omega
        have e0 : ((m + 1 : Nat) : Int) - 1 = (m : Int) := by omega
        rw [e0]
        obtain ⟨p, hp⟩ : ∃ p, la[m] = p := ⟨_, rfl⟩
        obtain ⟨q, hq⟩ : ∃ q, lb[m] = q := ⟨_, rfl⟩
        have hpx : (dg x)[m]'(by rw [HLA.out]; exact hka) = p := by rw [← hp]; exact getElem_congr_coll HLA.out
        have hqy : (dg y)[m]'(by rw [HLB.out]; exact hkb) = q := by rw [← hq]; exact getElem_congr_coll HLB.out
        rw [hp] at hc1
        rw [hq] at hc2
        rcases Nat.lt_trichotomy p q with hpq | hpq | hpq
        · have hc : cmpN x y = -1 := cmp_digit (k := m) (by rw [HLA.out]; exact hka) (by rw [HLB.out]; exact hkb) HDR.out (by rw [hpx, hqy]; exact hpq)
          have t1 : ((p : Int) != (q : Int)) = true := by simp; omega
          have t2 : (p != q) = true := by simp; omega
          have t3 : (p : Int) < (q : Int) := by omega
          clear hp hq hpx hqy e0
          go_wp2_with fail
          go_quiet (fail)
          go_wp2_with fail
          go_quiet (fail)
          go_wp2_with fail
          go_ret
          exact ⟨by rw [hc]; rfl, (by repeat (first | exact Below.refl _ _ | refine below_drewN ?_ _))⟩
        · have HX : Hid ((dg x).drop m = (dg y).drop m) := by
            show _ = _
            rw [List.drop_eq_getElem_cons (by rw [HLA.out]; exact hka), List.drop_eq_getElem_cons (l := dg y) (by rw [HLB.out]; exact hkb), hpx, hqy, hpq, HDR.out]
          have t1 : ((p : Int) != (q : Int)) = false := by simp [hpq]
          have t2 : (p != q) = false := by simp [hpq]
          clear hp hq hpx hqy e0
          go_wp2_with fail
          go_quiet (fail)
          go_wp2_with fail
          go_roundw
          case rel => exact ⟨m, by rw [HLA.out]; exact Nat.le_of_lt hka, by first | rfl | go_num, HX.out, _, rfl⟩
          case measure => simp [intOf]
        · have hc : cmpN x y = 1 := cmp_digit' (k := m) (by rw [HLA.out]; exact hka) (by rw [HLB.out]; exact hkb) HDR.out (by rw [hpx, hqy]; exact hpq)
          have t1 : ((p : Int) != (q : Int)) = true := by simp; omega
          have t2 : (p != q) = true := by simp; omega
          have t3 : ¬ (p : Int) < (q : Int) := by omega
          clear hp hq hpx hqy e0
          go_wp2_with fail
          go_quiet (fail)
          go_wp2_with fail
          go_quiet (fail)
          go_wp2_with fail
          go_ret
          exact ⟨by rw [hc]; rfl, (by repeat (first | exact Below.refl _ _ | refine below_drewN ?_ _))⟩
  · have hc : cmpN x y = 1 := cmp_len' (by rw [HLA.out, HLB.out]; exact hl)
    rw [hc]
    have h1 : ((la.length : Int) != (lb.length : Int)) = true := by simp; omega
    have h2 : (la.length != lb.length) = true := by simp; omega
    have h3 : ¬ (la.length : Int) < (lb.length : Int) := by omega
    go_enter Tryz.func119, Tryz.ntmps119
    go_wp2_with fail
    go_ret
    exact ⟨rfl, Below.refl _ _⟩
end Go.Proofs.YtpphnnijnnfngaaGreatDoor

/-
  Natural numbers of package num: the walks of one, plus.
-/
namespace Go.Proofs.YtpphnnijnnfngaaGreatDoor
open Go.RowKit Al Nat9

theorem dg_one : dg 1 = [1] := dg_small (by omega) (by omega)
theorem one_ (w : World) : Calls Tryz.prog 88 #[] w (NaT 1 w) := by
  go_enter Tryz.func88, Tryz.ntmps88
  go_wp2_with fail
  go_ret
  have h := S64.of_own (l := [1]) (World.ownsRow_lit (base := 0) (e := 157) (size := 1) w #[.int .u64 1] 1 (Nat.zero_le _) (by decide) rfl)
  refine ⟨some ⟨w.heap.size, 0, none⟩, 1, by rw [dg_one]; rfl, ?_, (Below.refl _ _).alloc (Nat.le_refl _) _⟩
  unfold NaIn
  rw [dg_one]
  exact h
def PlusRel (x y : Nat) (w : World) (i cr o : Value) (wr : World) : Prop :=
  ∃ (k : Nat) (l : List Nat) (q : Nat) (A : Option Addr) (c : Nat), k ≤ (dg x).length ∧ i = .int .i64 (k : Int) ∧ cr = .int .u64 (q : Int) ∧ o = .slice A l.length c ∧ PlusI (dg x) (dg y) k l q ∧ Hid (wr.ownsRow w.heap.size 157 1 (.slice A l.length c) l.length (u64s l)) ∧ Hid (Below w.heap.size w wr)
set_option maxRecDepth 100000 in
set_option maxHeartbeats 4000000 in
/-- Where the first is the longer one. -/
theorem plus_ge (x y : Nat) (A D : Option Addr) (c d : Nat) (w : World) (ha : NaIn w A c x) (hb : NaIn w D d y) (hl : (dg y).length ≤ (dg x).length) (hx : (dg x).length ≤ 1048576) : Calls Tryz.prog 118 #[.slice A (dg x).length c, .slice D (dg y).length d] w (NaT (x + y) w) := by
  obtain ⟨i0, hi, hz0, hz1, hz2⟩ := info_parts infoU64
  have HA := Lib.hid ha
  have HB := Lib.hid hb
  clear ha hb
  obtain ⟨la, hla⟩ : ∃ l, dg x = l := ⟨_, rfl⟩
  obtain ⟨lb, hlb⟩ : ∃ l, dg y = l := ⟨_, rfl⟩
  have HLA := Lib.hid hla
  have HLB := Lib.hid hlb
  unfold NaIn at HA HB
  rw [hla] at HA hx hl ⊢
  rw [hlb] at HB hl ⊢
  clear hla hlb
  have h1 : ¬ (la.length : Int) < (lb.length : Int) := by omega
  have h2 : (0 : Int) ≤ (la.length : Int) + 1 := by omega
  have h3 : (la.length : Int) + 1 ≤ 1048577 := by omega
  go_enter Tryz.func118, Tryz.ntmps118
  go_wp2_with (at_make; refine wpList_make_own _ rfl _ _ 67 rfl w.heap.size 157 i0 (.int .u64 0) 1 Tryz.underlying67 hi hz0 hz1 _ _ _ (la.length + 1) rfl rfl (by omega) (by rw [hz2]; omega) (by unfold maxLen; omega) (Nat.le_refl _) ?_; intro w1 hown1 hg1)
  have HO1 := Lib.hid hown1
  have HB1 : Hid (Below w.heap.size w w1) := (Below.refl _ _).grown hg1 (Nat.le_refl _) (fun g h => by cases h)
  clear hown1 hg1
  go_loopw [22, 6, 5] (fun i cr o wr => PlusRel x y w i cr o wr) (fun i _ _ _ => la.length - (intOf i).toNat)
  case atStart => exact ⟨0, [], 0, some ⟨w.heap.size, 0, none⟩, la.length + 1, Nat.zero_le _, rfl, rfl, rfl, PlusI.start _ _, HO1, HB1⟩
  case round =>
    obtain ⟨k, l, q, A1, c1, hk, rfl, rfl, rfl, hI, HO, HW⟩ := hrel
    have HI := Lib.hid hI
    have hcar := hI.car
    have hlen := hI.len
    have hsz := HW.out.size
    rw [HLA.out] at hk
    clear hI
    by_cases hlt : k < la.length
    · obtain ⟨b1, o1, rfl, hb1, z1⟩ := (HA.out.below HW.out).u64_at hlt
      have hb1' : b1 < wr.heap.size := by omega
      have i0' : (0 : Int) ≤ (k : Int) := by omega
      have i1 : (k : Int) < (la.length : Int) := by omega
      have hpx : (dg x)[k]'(by rw [HLA.out]; exact hlt) = la[k] := getElem_congr_coll HLA.out
      have hp9 : la[k] < 1000000000 := by rw [← hpx]; exact (dg_dg x).at _
      obtain ⟨p, hp⟩ : ∃ p, la[k] = p := ⟨_, rfl⟩
      rw [hp] at z1 hpx hp9
      clear hp
      by_cases hlt2 : k < lb.length
      · obtain ⟨b2, o2, rfl, hb2, z2⟩ := (HB.out.below HW.out).u64_at hlt2
        have hb2' : b2 < wr.heap.size := by omega
        have i2 : (k : Int) < (lb.length : Int) := by omega
        have hqy : (dg y)[k]'(by rw [HLB.out]; exact hlt2) = lb[k] := getElem_congr_coll HLB.out
        have hq9 : lb[k] < 1000000000 := by rw [← hqy]; exact (dg_dg y).at _
        obtain ⟨r, hr⟩ : ∃ r, lb[k] = r := ⟨_, rfl⟩
        rw [hr] at z2 hqy hq9
        clear hr
        have HN := Lib.hid (HI.out.both (dg_dg x) (dg_dg y) (by rw [HLA.out]; exact hlt) (by rw [HLB.out]; exact hlt2))
        rw [hpx, hqy] at HN
        clear hpx hqy
        go_wp2_with (at_builtin; go_must (refine wpList_append_lies _ rfl _ _ 67 rfl w.heap.size 157 i0 (.int .u64 0) 1 8 Tryz.underlying67 hi hz0 hz1 hz2 rfl (by decide) (.slice A1 l.length c1) l.length (u64s l) rfl (own_below HO.out (Nat.le_refl _) ((Below.refl _ _).alloc (Nat.le_refl _) _)) _ 1 1 [.int .u64 (((q + p + r) % 1000000000 : Nat) : Int)] rfl rfl (World.news_of_block (heap_alloc_new wr _)) (by intro u hu; rw [List.mem_singleton.1 hu]; rfl) (by decide) (by unfold maxLen; omega) (by omega) (by simp; omega) _ rfl ?_); intro g cap w6 hown6 hg6 hat6 hlt6; have z6 := hg6.size; (try simp at z6))
        go_roundw
        case rel =>
          refine ⟨k + 1, l ++ [(q + p + r) % 1000000000], (q + p + r) / 1000000000, some ⟨g, 0, none⟩, cap, by rw [HLA.out]; omega, by go_num, rfl, by rw [List.length_append, List.length_singleton, hlen], HN.out, Lib.hid ?_, Lib.hid ((HW.out.alloc hsz _).grown hg6 (by simp; omega) (fun g h => (own_lt HO.out h).1))⟩
          rw [u64s_app, show (l ++ [(q + p + r) % 1000000000]).length = l.length + 1 by simp]
          exact hown6
        case measure => simp [intOf]; omega
      · have i2 : ¬ (k : Int) < (lb.length : Int) := by omega
        have HN := Lib.hid (HI.out.one (dg_dg x) (by rw [HLA.out]; exact hlt) (by rw [HLB.out]; omega))
        rw [hpx] at HN
        clear hpx
        go_wp2_with (at_builtin; go_must (refine wpList_append_lies _ rfl _ _ 67 rfl w.heap.size 157 i0 (.int .u64 0) 1 8 Tryz.underlying67 hi hz0 hz1 hz2 rfl (by decide) (.slice A1 l.length c1) l.length (u64s l) rfl (own_below HO.out (Nat.le_refl _) ((Below.refl _ _).alloc (Nat.le_refl _) _)) _ 1 1 [.int .u64 (((q + p) % 1000000000 : Nat) : Int)] rfl rfl (World.news_of_block (heap_alloc_new wr _)) (by intro u hu; rw [List.mem_singleton.1 hu]; rfl) (by decide) (by unfold maxLen; omega) (by omega) (by simp; omega) _ rfl ?_); intro g cap w6 hown6 hg6 hat6 hlt6; have z6 := hg6.size; (try simp at z6))
        go_roundw
        case rel =>
          refine ⟨k + 1, l ++ [(q + p) % 1000000000], (q + p) / 1000000000, some ⟨g, 0, none⟩, cap, by rw [HLA.out]; omega, by go_num, rfl, by rw [List.length_append, List.length_singleton, hlen], HN.out, Lib.hid ?_, Lib.hid ((HW.out.alloc hsz _).grown hg6 (by simp; omega) (fun g h => (own_lt HO.out h).1))⟩
          rw [u64s_app, show (l ++ [(q + p) % 1000000000]).length = l.length + 1 by simp]
          exact hown6
        case measure => simp [intOf]; omega
    · obtain rfl : k = la.length := by omega
      have hend := PlusI.end_ (x := x) (y := y) (o := l) (c := q) (by rw [show (dg x).length = la.length from congrArg _ HLA.out]; exact HI.out) (by rw [HLA.out, HLB.out]; exact hl)
      by_cases hq : 0 < q
      · rw [if_pos hq] at hend
        have HE := Lib.hid hend
        have q0 : (0 : Int) < (q : Int) := by omega
        clear hend
        go_wp2_with (at_builtin; go_must (refine wpList_append_lies _ rfl _ _ 67 rfl w.heap.size 157 i0 (.int .u64 0) 1 8 Tryz.underlying67 hi hz0 hz1 hz2 rfl (by decide) (.slice A1 l.length c1) l.length (u64s l) rfl (own_below HO.out (Nat.le_refl _) ((Below.refl _ _).alloc (Nat.le_refl _) _)) _ 1 1 [.int .u64 ((q : Nat) : Int)] rfl rfl (World.news_of_block (heap_alloc_new wr _)) (by intro u hu; rw [List.mem_singleton.1 hu]; rfl) (by decide) (by unfold maxLen; omega) (by omega) (by simp; omega) _ rfl ?_); intro g cap w6 hown6 hg6 hat6 hlt6; have z6 := hg6.size; (try simp at z6))
        go_ret
        refine ⟨some ⟨g, 0, none⟩, cap, ?_, ?_, (HW.out.alloc hsz _).grown hg6 (by simp; omega) (fun g h => (own_lt HO.out h).1)⟩
        · rw [← HE.out, List.length_append, List.length_singleton, hlen]; rfl
        · unfold NaIn
          rw [← HE.out]
          have h6 : w6.ownsRow w.heap.size 157 1 (.slice (some ⟨g, 0, none⟩) (l.length + 1) cap) (l.length + 1) (u64s (l ++ [q])) := by rw [u64s_app]; exact hown6
          have h := S64.of_own h6
          rw [show (l ++ [q]).length = l.length + 1 by simp]
          exact h
      · rw [if_neg hq] at hend
        obtain rfl : q = 0 := by omega
        have HE := Lib.hid hend
        clear hend
        go_wp2_with fail
        go_ret
        refine ⟨A1, c1, ?_, ?_, HW.out⟩
        · rw [← HE.out, hlen]; rfl
        · unfold NaIn
          rw [← HE.out]
          exact S64.of_own HO.out
set_option maxRecDepth 100000 in
set_option maxHeartbeats 4000000 in
/-- Where the second is the longer one (named first here). -/
theorem plus_lt (x y : Nat) (A D : Option Addr) (c d : Nat) (w : World) (ha : NaIn w A c x) (hb : NaIn w D d y) (hl : (dg y).length < (dg x).length) (hx : (dg x).length ≤ 1048576) : Calls Tryz.prog 118 #[.slice D (dg y).length d, .slice A (dg x).length c] w (NaT (x + y) w) := by
  obtain ⟨i0, hi, hz0, hz1, hz2⟩ := info_parts infoU64
  have HA := Lib.hid ha
  have HB := Lib.hid hb
  clear ha hb
  obtain ⟨la, hla⟩ : ∃ l, dg x = l := ⟨_, rfl⟩
  obtain ⟨lb, hlb⟩ : ∃ l, dg y = l := ⟨_, rfl⟩
  have HLA := Lib.hid hla
  have HLB := Lib.hid hlb
  unfold NaIn at HA HB
  rw [hla] at HA hx hl ⊢
  rw [hlb] at HB hl ⊢
  clear hla hlb
  have h1 : (lb.length : Int) < (la.length : Int) := by omega
  have h2 : (0 : Int) ≤ (la.length : Int) + 1 := by omega
  have h3 : (la.length : Int) + 1 ≤ 1048577 := by omega
  go_enter Tryz.func118, Tryz.ntmps118
  go_wp2_with (at_make; refine wpList_make_own _ rfl _ _ 67 rfl w.heap.size 157 i0 (.int .u64 0) 1 Tryz.underlying67 hi hz0 hz1 _ _ _ (la.length + 1) rfl rfl (by omega) (by rw [hz2]; omega) (by unfold maxLen; omega) (Nat.le_refl _) ?_; intro w1 hown1 hg1)
  have HO1 := Lib.hid hown1
  have HB1 : Hid (Below w.heap.size w w1) := (Below.refl _ _).grown hg1 (Nat.le_refl _) (fun g h => by cases h)
  clear hown1 hg1
  go_loopw [22, 6, 5] (fun i cr o wr => PlusRel x y w i cr o wr) (fun i _ _ _ => la.length - (intOf i).toNat)
  case atStart => exact ⟨0, [], 0, some ⟨w.heap.size, 0, none⟩, la.length + 1, Nat.zero_le _, rfl, rfl, rfl, PlusI.start _ _, HO1, HB1⟩
  case round =>
    obtain ⟨k, l, q, A1, c1, hk, rfl, rfl, rfl, hI, HO, HW⟩ := hrel
    have HI := Lib.hid hI
    have hcar := hI.car
    have hlen := hI.len
    have hsz := HW.out.size
    rw [HLA.out] at hk
    clear hI
    by_cases hlt : k < la.length
    · obtain ⟨b1, o1, rfl, hb1, z1⟩ := (HA.out.below HW.out).u64_at hlt
      have hb1' : b1 < wr.heap.size := by omega
      have i0' : (0 : Int) ≤ (k : Int) := by omega
      have i1 : (k : Int) < (la.length : Int) := by omega
      have hpx : (dg x)[k]'(by rw [HLA.out]; exact hlt) = la[k] := getElem_congr_coll HLA.out
      have hp9 : la[k] < 1000000000 := by rw [← hpx]; exact (dg_dg x).at _
      obtain ⟨p, hp⟩ : ∃ p, la[k] = p := ⟨_, rfl⟩
      rw [hp] at z1 hpx hp9
      clear hp
      by_cases hlt2 : k < lb.length
      · obtain ⟨b2, o2, rfl, hb2, z2⟩ := (HB.out.below HW.out).u64_at hlt2
        have hb2' : b2 < wr.heap.size := by omega
        have i2 : (k : Int) < (lb.length : Int) := by omega
        have hqy : (dg y)[k]'(by rw [HLB.out]; exact hlt2) = lb[k] := getElem_congr_coll HLB.out
        have hq9 : lb[k] < 1000000000 := by rw [← hqy]; exact (dg_dg y).at _
        obtain ⟨r, hr⟩ : ∃ r, lb[k] = r := ⟨_, rfl⟩
        rw [hr] at z2 hqy hq9
        clear hr
        have HN := Lib.hid (HI.out.both (dg_dg x) (dg_dg y) (by rw [HLA.out]; exact hlt) (by rw [HLB.out]; exact hlt2))
        rw [hpx, hqy] at HN
        clear hpx hqy
        go_wp2_with (at_builtin; go_must (refine wpList_append_lies _ rfl _ _ 67 rfl w.heap.size 157 i0 (.int .u64 0) 1 8 Tryz.underlying67 hi hz0 hz1 hz2 rfl (by decide) (.slice A1 l.length c1) l.length (u64s l) rfl (own_below HO.out (Nat.le_refl _) ((Below.refl _ _).alloc (Nat.le_refl _) _)) _ 1 1 [.int .u64 (((q + p + r) % 1000000000 : Nat) : Int)] rfl rfl (World.news_of_block (heap_alloc_new wr _)) (by intro u hu; rw [List.mem_singleton.1 hu]; rfl) (by decide) (by unfold maxLen; omega) (by omega) (by simp; omega) _ rfl ?_); intro g cap w6 hown6 hg6 hat6 hlt6; have z6 := hg6.size; (try simp at z6))
        go_roundw
        case rel =>
          refine ⟨k + 1, l ++ [(q + p + r) % 1000000000], (q + p + r) / 1000000000, some ⟨g, 0, none⟩, cap, by rw [HLA.out]; omega, by go_num, rfl, by rw [List.length_append, List.length_singleton, hlen], HN.out, Lib.hid ?_, Lib.hid ((HW.out.alloc hsz _).grown hg6 (by simp; omega) (fun g h => (own_lt HO.out h).1))⟩
          rw [u64s_app, show (l ++ [(q + p + r) % 1000000000]).length = l.length + 1 by simp]
          exact hown6
        case measure => simp [intOf]; omega
      · have i2 : ¬ (k : Int) < (lb.length : Int) := by omega
        have HN := Lib.hid (HI.out.one (dg_dg x) (by rw [HLA.out]; exact hlt) (by rw [HLB.out]; omega))
        rw [hpx] at HN
        clear hpx
        go_wp2_with (at_builtin; go_must (refine wpList_append_lies _ rfl _ _ 67 rfl w.heap.size 157 i0 (.int .u64 0) 1 8 Tryz.underlying67 hi hz0 hz1 hz2 rfl (by decide) (.slice A1 l.length c1) l.length (u64s l) rfl (own_below HO.out (Nat.le_refl _) ((Below.refl _ _).alloc (Nat.le_refl _) _)) _ 1 1 [.int .u64 (((q + p) % 1000000000 : Nat) : Int)] rfl rfl (World.news_of_block (heap_alloc_new wr _)) (by intro u hu; rw [List.mem_singleton.1 hu]; rfl) (by decide) (by unfold maxLen; omega) (by omega) (by simp; omega) _ rfl ?_); intro g cap w6 hown6 hg6 hat6 hlt6; have z6 := hg6.size; (try simp at z6))
        go_roundw
        case rel =>
          refine ⟨k + 1, l ++ [(q + p) % 1000000000], (q + p) / 1000000000, some ⟨g, 0, none⟩, cap, by rw [HLA.out]; omega, by go_num, rfl, by rw [List.length_append, List.length_singleton, hlen], HN.out, Lib.hid ?_, Lib.hid ((HW.out.alloc hsz _).grown hg6 (by simp; omega) (fun g h => (own_lt HO.out h).1))⟩
          rw [u64s_app, show (l ++ [(q + p) % 1000000000]).length = l.length + 1 by simp]
          exact hown6
        case measure => simp [intOf]; omega
    · obtain rfl : k = la.length := by omega
      have hend := PlusI.end_ (x := x) (y := y) (o := l) (c := q) (by rw [show (dg x).length = la.length from congrArg _ HLA.out]; exact HI.out) (by rw [HLA.out, HLB.out]; exact Nat.le_of_lt hl)
      by_cases hq : 0 < q
      · rw [if_pos hq] at hend
        have HE := Lib.hid hend
        have q0 : (0 : Int) < (q : Int) := by omega
        clear hend
        go_wp2_with (at_builtin; go_must (refine wpList_append_lies _ rfl _ _ 67 rfl w.heap.size 157 i0 (.int .u64 0) 1 8 Tryz.underlying67 hi hz0 hz1 hz2 rfl (by decide) (.slice A1 l.length c1) l.length (u64s l) rfl (own_below HO.out (Nat.le_refl _) ((Below.refl _ _).alloc (Nat.le_refl _) _)) _ 1 1 [.int .u64 ((q : Nat) : Int)] rfl rfl (World.news_of_block (heap_alloc_new wr _)) (by intro u hu; rw [List.mem_singleton.1 hu]; rfl) (by decide) (by unfold maxLen; omega) (by omega) (by simp; omega) _ rfl ?_); intro g cap w6 hown6 hg6 hat6 hlt6; have z6 := hg6.size; (try simp at z6))
        go_ret
        refine ⟨some ⟨g, 0, none⟩, cap, ?_, ?_, (HW.out.alloc hsz _).grown hg6 (by simp; omega) (fun g h => (own_lt HO.out h).1)⟩
        · rw [← HE.out, List.length_append, List.length_singleton, hlen]; rfl
        · unfold NaIn
          rw [← HE.out]
          have h6 : w6.ownsRow w.heap.size 157 1 (.slice (some ⟨g, 0, none⟩) (l.length + 1) cap) (l.length + 1) (u64s (l ++ [q])) := by rw [u64s_app]; exact hown6
          have h := S64.of_own h6
          rw [show (l ++ [q]).length = l.length + 1 by simp]
          exact h
      · rw [if_neg hq] at hend
        obtain rfl : q = 0 := by omega
        have HE := Lib.hid hend
        clear hend
        go_wp2_with fail
        go_ret
        refine ⟨A1, c1, ?_, ?_, HW.out⟩
        · rw [← HE.out, hlen]; rfl
        · unfold NaIn
          rw [← HE.out]
          exact S64.of_own HO.out
theorem plus_ (x y : Nat) (A D : Option Addr) (c d : Nat) (w : World) (ha : NaIn w A c x) (hb : NaIn w D d y) (hx : (dg x).length ≤ 1048576) (hy : (dg y).length ≤ 1048576) : Calls Tryz.prog 118 #[.slice A (dg x).length c, .slice D (dg y).length d] w (NaT (x + y) w) := by
  rcases Nat.lt_or_ge (dg x).length (dg y).length with h | h
  · rw [Nat.add_comm]
    exact plus_lt y x D A d c w hb ha h hy
  · exact plus_ge x y A D c d w ha hb h hx
end Go.Proofs.YtpphnnijnnfngaaGreatDoor

/-
  Natural numbers of package num: the walk of minus.
-/
namespace Go.Proofs.YtpphnnijnnfngaaGreatDoor
open Go.RowKit Al Nat9

theorem set_pad (l : List Nat) (m v : Nat) : (l ++ List.replicate (m + 1) 0).set l.length v = (l ++ [v]) ++ List.replicate m 0 := by
  rw [List.set_append_right _ _ (Nat.le_refl _), Nat.sub_self, List.replicate_succ, List.set_cons_zero, List.append_assoc]
  rfl
theorem u64s_set (l : List Nat) (k v : Nat) : (u64s l).set k (.int .u64 (v : Int)) = u64s (l.set k v) := by
  unfold u64s
  rw [List.map_set]
theorem made_u64 (n : Nat) : (madeCells (Value.int .u64 0).cells (n * 1)).toList = u64s (List.replicate n 0) := by
  show (madeCells #[Value.int .u64 0] (n * 1)).toList = _
  rw [Nat.mul_one, toList_madeCells_one]
  unfold u64s
  rw [List.map_replicate]
  rfl
def MinRel (x y : Nat) (w : World) (n : Nat) (i cr : Value) (wr : World) : Prop :=
  ∃ (k : Nat) (l : List Nat) (q : Nat), k ≤ n ∧ i = .int .i64 (k : Int) ∧ cr = .int .u64 (q : Int) ∧ MinI (dg x) (dg y) k l q ∧ Hid (wr.ownsRow w.heap.size 157 1 (.slice (some ⟨w.heap.size, 0, none⟩) n n) n (u64s (l ++ List.replicate (n - k) 0))) ∧ Hid (Below w.heap.size w wr)
set_option maxRecDepth 100000 in
set_option maxHeartbeats 4000000 in
theorem minus_ (x y : Nat) (A D : Option Addr) (c d : Nat) (w : World) (ha : NaIn w A c x) (hb : NaIn w D d y) (hle : y ≤ x) (hx : (dg x).length ≤ 1048576) : Calls Tryz.prog 120 #[.slice A (dg x).length c, .slice D (dg y).length d] w (NaT (x - y) w) := by
  obtain ⟨i0, hi, hz0, hz1, hz2⟩ := info_parts infoU64
  have HA := Lib.hid ha
  have HB := Lib.hid hb
  have hym : (dg y).length ≤ 9223372036854775807 := Nat.le_trans (S64.cap hb) (S64.max hb)
  clear ha hb
  obtain ⟨la, hla⟩ : ∃ l, dg x = l := ⟨_, rfl⟩
  obtain ⟨lb, hlb⟩ : ∃ l, dg y = l := ⟨_, rfl⟩
  have HLA := Lib.hid hla
  have HLB := Lib.hid hlb
  unfold NaIn at HA HB
  rw [hla] at HA hx ⊢
  rw [hlb] at HB hym ⊢
  clear hla hlb
  have h2 : (0 : Int) ≤ (la.length : Int) := by omega
  have h3 : (la.length : Int) ≤ 1048576 := by omega
  go_enter Tryz.func120, Tryz.ntmps120
  go_wp2_with (at_make; refine wpList_make_full _ rfl _ _ 67 rfl w.heap.size 157 i0 (.int .u64 0) 1 Tryz.underlying67 hi hz0 hz1 _ _ _ _ la.length rfl rfl (by omega) (by omega) (by rw [hz2]; omega) (by unfold maxLen; omega) (Nat.le_refl _) ?_; intro w1 hown1 hg1)
  rw [made_u64] at hown1
  have HO1 := Lib.hid hown1
  have HB1 : Hid (Below w.heap.size w w1) := (Below.refl _ _).grown hg1 (Nat.le_refl _) (fun g h => by cases h)
  clear hown1 hg1
  go_loopw [15, 6] (fun i cr wr => MinRel x y w la.length i cr wr) (fun i _ _ => la.length - (intOf i).toNat)
  case atStart => exact ⟨0, [], 0, Nat.zero_le _, rfl, rfl, MinI.start _ _, HO1, HB1⟩
  case round =>
    obtain ⟨k, l, q, hk, rfl, rfl, hI, HO, HW⟩ := hrel
    have HI := Lib.hid hI
    have hcar := hI.car
    have hlen := hI.len
    have hsz := HW.out.size
    clear hI
    by_cases hlt : k < la.length
    · obtain ⟨b1, o1, rfl, hb1, z1⟩ := (HA.out.below HW.out).u64_at hlt
      have hb1' : b1 < wr.heap.size := by omega
      have i0' : (0 : Int) ≤ (k : Int) := by omega
      have i1 : (k : Int) < (la.length : Int) := by omega
      have hpx : (dg x)[k]'(by rw [HLA.out]; exact hlt) = la[k] := getElem_congr_coll HLA.out
      have hp9 : la[k] < 1000000000 := by rw [← hpx]; exact (dg_dg x).at _
      have hg := HO.out.lt w.heap.size rfl
      have hg2 : w.heap.size < wr.heap.size := hg.2
      have r0 := HO.out.cellAt k (by omega)
      have r1 := HO.out.frozenAt k
      have hcell : (u64s (l ++ List.replicate (la.length - k) 0))[k]? = some (.int .u64 0) := by
        have h5 : k < (l ++ List.replicate (la.length - k) 0).length := by simp; omega
        rw [u64s_at h5]
        congr 2
        rw [List.getElem_append_right (by omega)]
        simp
      rw [hcell] at r0
      clear hcell
      have HST : Hid (∀ v : Nat, (u64s (l ++ List.replicate (la.length - k) 0)).set k (.int .u64 (v : Int)) = u64s ((l ++ [v]) ++ List.replicate (la.length - (k + 1)) 0)) := fun v => by
        rw [u64s_set, show la.length - k = (la.length - (k + 1)) + 1 by omega, ← hlen, set_pad]
      obtain ⟨p, hp⟩ : ∃ p, la[k] = p := ⟨_, rfl⟩
      rw [hp] at z1 hpx hp9
      clear hp
      by_cases hlt2 : k < lb.length
      · obtain ⟨b2, o2, rfl, hb2, z2⟩ := (HB.out.below HW.out).u64_at hlt2
        have hb2' : b2 < wr.heap.size := by omega
        have i2 : (k : Int) < (lb.length : Int) := by omega
        have hqy : (dg y)[k]'(by rw [HLB.out]; exact hlt2) = lb[k] := getElem_congr_coll HLB.out
        have hq9 : lb[k] < 1000000000 := by rw [← hqy]; exact (dg_dg y).at _
        obtain ⟨r, hr⟩ : ∃ r, lb[k] = r := ⟨_, rfl⟩
        rw [hr] at z2 hqy hq9
        clear hr
        have HN := Lib.hid (HI.out.step (dg_dg x) (by rw [HLA.out]; exact hlt) (y := r) (by rw [take_succ_val (by rw [HLB.out]; exact hlt2), hqy]) hq9)
        rw [hpx] at HN
        clear hpx hqy
        by_cases hbr : p < q + r
        · rw [if_pos hbr, if_pos hbr] at HN
          have t1 : (p : Int) < (q : Int) + (r : Int) := by omega
          go_wp2_with fail
          have e : (p : Int) + 1000000000 - ((q : Int) + (r : Int)) = ((p + 1000000000 - (q + r) : Nat) : Int) := by omega
          rw [e]
          have h1 := HO.out.stored k (.int .u64 ((p + 1000000000 - (q + r) : Nat) : Int))
          rw [HST.out] at h1
          go_roundw
          case rel => exact ⟨k + 1, l ++ [p + 1000000000 - (q + r)], 1, by omega, by go_num, rfl, HN.out, Lib.hid h1.1, Lib.hid (HW.out.grown h1.2 hsz (fun g e => by cases e; exact Nat.le_refl _))⟩
          case measure => simp [intOf]; omega
        · rw [if_neg hbr, if_neg hbr] at HN
          have t1 : ¬ (p : Int) < (q : Int) + (r : Int) := by omega
          go_wp2_with fail
          have e : (p : Int) - ((q : Int) + (r : Int)) = ((p - (q + r) : Nat) : Int) := by omega
          rw [e]
          have h1 := HO.out.stored k (.int .u64 ((p - (q + r) : Nat) : Int))
          rw [HST.out] at h1
          go_roundw
          case rel => exact ⟨k + 1, l ++ [p - (q + r)], 0, by omega, by go_num, rfl, HN.out, Lib.hid h1.1, Lib.hid (HW.out.grown h1.2 hsz (fun g e => by cases e; exact Nat.le_refl _))⟩
          case measure => simp [intOf]; omega
      · have i2 : ¬ (k : Int) < (lb.length : Int) := by omega
        have HN := Lib.hid (HI.out.step (dg_dg x) (by rw [HLA.out]; exact hlt) (y := 0) (by rw [take_more (by rw [HLB.out]; omega), Nat.mul_zero, Nat.add_zero]) (by omega))
        rw [hpx] at HN
        simp only [Nat.add_zero] at HN
        clear hpx
        by_cases hbr : p < q
        · rw [if_pos hbr, if_pos hbr] at HN
          have t1 : (p : Int) < (q : Int) := by omega
          go_wp2_with fail
          have e : (p : Int) + 1000000000 - (q : Int) = ((p + 1000000000 - q : Nat) : Int) := by omega
          rw [e]
          have h1 := HO.out.stored k (.int .u64 ((p + 1000000000 - q : Nat) : Int))
          rw [HST.out] at h1
          go_roundw
          case rel => exact ⟨k + 1, l ++ [p + 1000000000 - q], 1, by omega, by go_num, rfl, HN.out, Lib.hid h1.1, Lib.hid (HW.out.grown h1.2 hsz (fun g e => by cases e; exact Nat.le_refl _))⟩
          case measure => simp [intOf]; omega
        · rw [if_neg hbr, if_neg hbr] at HN
          have t1 : ¬ (p : Int) < (q : Int) := by omega
          go_wp2_with fail
          have e : (p : Int) - (q : Int) = ((p - q : Nat) : Int) := by omega
          rw [e]
          have h1 := HO.out.stored k (.int .u64 ((p - q : Nat) : Int))
          rw [HST.out] at h1
          go_roundw
          case rel => exact ⟨k + 1, l ++ [p - q], 0, by omega, by go_num, rfl, HN.out, Lib.hid h1.1, Lib.hid (HW.out.grown h1.2 hsz (fun g e => by cases e; exact Nat.le_refl _))⟩
          case measure => simp [intOf]; omega
    · obtain rfl : k = la.length := by omega
      have hv := MinI.end_ (x := x) (y := y) (o := l) (c := q) (by rw [show (dg x).length = la.length from congrArg _ HLA.out]; exact HI.out) hle
      have hs := S64.of_own HO.out
      rw [Nat.sub_self, List.replicate_zero, List.append_nil, ← hlen] at hs
      have HL := lean_ l _ l.length wr HI.out.ds hs
      rw [hv, hlen] at HL
      have HLL := Lib.hid HL
      clear HL hs hv
      go_wp2_with fail
      refine HLL.out.mono ?_
      rintro e w' ⟨A', c', rfl, hn, hb⟩
      have HN := Lib.hid hn
      have HW2 := Lib.hid (HW.out.trans (hb.mono hsz))
      clear hn hb
      go_wp2_with fail
      go_ret
      exact ⟨A', c', rfl, HN.out, HW2.out⟩
end Go.Proofs.YtpphnnijnnfngaaGreatDoor

/-
  Natural numbers of package num: the walk of short (division by one digit).
-/
namespace Go.Proofs.YtpphnnijnnfngaaGreatDoor
open Go.RowKit Al Nat9

theorem set_top (m v : Nat) (o : List Nat) : (List.replicate (m + 1) 0 ++ o).set m v = List.replicate m 0 ++ (v :: o) := by
  rw [List.replicate_succ', List.append_assoc, List.set_append_right _ _ (by simp), List.length_replicate, Nat.sub_self]
  rfl
def ShRel (x d : Nat) (w : World) (n : Nat) (i r : Value) (wr : World) : Prop :=
  ∃ (k : Nat) (o : List Nat) (q : Nat), k ≤ n ∧ i = .int .i64 ((k : Int) - 1) ∧ r = .int .u64 (q : Int) ∧ ShI (dg x) d k o q ∧ Hid (wr.ownsRow w.heap.size 157 1 (.slice (some ⟨w.heap.size, 0, none⟩) n n) n (u64s (List.replicate k 0 ++ o))) ∧ Hid (Below w.heap.size w wr)
/-- A natural number and a digit are handed back. -/
def NaDT (v r : Nat) (w : World) (e : Ending) (w' : World) : Prop := ∃ A c, e = .returned (.tuple #[.slice A (dg v).length c, .int .u64 (r : Int)]) ∧ NaIn w' A c v ∧ Below w.heap.size w w'
set_option maxRecDepth 100000 in
set_option maxHeartbeats 4000000 in
theorem short_ (x d : Nat) (A : Option Addr) (c : Nat) (w : World) (ha : NaIn w A c x) (hd0 : 0 < d) (hd9 : d < 1000000000) (hx : (dg x).length ≤ 1048576) : Calls Tryz.prog 124 #[.slice A (dg x).length c, .int .u64 (d : Int)] w (NaDT (x / d) (x % d) w) := by
  obtain ⟨i0, hi, hz0, hz1, hz2⟩ := info_parts infoU64
  have HA := Lib.hid ha
  clear ha
  obtain ⟨la, hla⟩ : ∃ l, dg x = l := ⟨_, rfl⟩
  have HLA := Lib.hid hla
  unfold NaIn at HA
  rw [hla] at HA hx ⊢
  clear hla
  have h2 : (0 : Int) ≤ (la.length : Int) := by omega
  have h3 : (la.length : Int) ≤ 1048576 := by omega
  have h4 : (0 : Int) < (d : Int) := by omega
  have h5 : (d : Int) < 1000000000 := by omega
  go_enter Tryz.func124, Tryz.ntmps124
  go_wp2_with (at_make; refine wpList_make_full _ rfl _ _ 67 rfl w.heap.size 157 i0 (.int .u64 0) 1 Tryz.underlying67 hi hz0 hz1 _ _ _ _ la.length rfl rfl (by omega) (by omega) (by rw [hz2]; omega) (by unfold maxLen; omega) (Nat.le_refl _) ?_; intro w1 hown1 hg1)
  rw [made_u64] at hown1
  have HO1 := Lib.hid hown1
  have HB1 : Hid (Below w.heap.size w w1) := (Below.refl _ _).grown hg1 (Nat.le_refl _) (fun g h => by cases h)
  clear hown1 hg1
  go_loopw [8, 7] (fun i r wr => ShRel x d w la.length i r wr) (fun i _ _ => (intOf i + 1).toNat)
  case atStart => exact ⟨la.length, [], 0, Nat.le_refl _, by first | rfl | go_num, rfl, by have h := ShI.start (a := dg x) hd0; rw [show (dg x).length = la.length from congrArg _ HLA.out] at h; exact h, by rw [List.append_nil]; exact HO1, HB1⟩
  case round =>
    obtain ⟨k, o, q, hk, rfl, rfl, hI, HO, HW⟩ := hrel
    have HI := Lib.hid hI
    have hql := hI.lt
    have hsz := HW.out.size
    clear hI
    cases k with
    | zero =>
      have hlen : o.length = la.length := by have h := HI.out.len; rw [show (dg x).length = la.length from congrArg _ HLA.out, Nat.sub_zero] at h; exact h
      obtain ⟨hv, hr⟩ := HI.out.end_ hd0
      have hs := S64.of_own HO.out
      rw [List.replicate_zero, List.nil_append, ← hlen] at hs
      have HL := lean_ o _ o.length wr HI.out.ds hs
      rw [hv, hlen] at HL
      have HLL := Lib.hid HL
      have HR := Lib.hid hr
      clear HL hs hv hr
      go_wp2_with fail
      refine HLL.out.mono ?_
      rintro e w' ⟨A', c', rfl, hn, hb⟩
      have HN := Lib.hid hn
      have HW2 := Lib.hid (HW.out.trans (hb.mono hsz))
      clear hn hb
      go_wp2_with fail
      go_ret2
      exact ⟨A', c', by rw [← HR.out]; rfl, HN.out, HW2.out⟩
    | succ m =>
      have hlt : m < la.length := by omega
      obtain ⟨b1, o1, rfl, hb1, z1⟩ := (HA.out.below HW.out).u64_at hlt
      have hb1' : b1 < wr.heap.size := by omega
      have e0 : ((m + 1 : Nat) : Int) - 1 = (m : Int) := by omega
      rw [e0]
      have i0' : (0 : Int) ≤ (m : Int) := by omega
      have i1 : (m : Int) < (la.length : Int) := by omega
      have hpx : (dg x)[m]'(by rw [HLA.out]; exact hlt) = la[m] := getElem_congr_coll HLA.out
      have hp9 : la[m] < 1000000000 := by rw [← hpx]; exact (dg_dg x).at _
      have HN := Lib.hid (HI.out.step (dg_dg x) (by rw [HLA.out]; exact hlt) hd9)
      rw [hpx] at HN
      have hg := HO.out.lt w.heap.size rfl
      have hg2 : w.heap.size < wr.heap.size := hg.2
      have r1 := HO.out.frozenAt m
      have r0 := HO.out.cellAt m (by omega)
      have hcell : (u64s (List.replicate (m + 1) 0 ++ o))[m]? = some (.int .u64 0) := by
        have h5 : m < (List.replicate (m + 1) 0 ++ o).length := by simp; omega
        rw [u64s_at h5]
        congr 2
        rw [List.getElem_append_left (by simp)]
        simp
      rw [hcell] at r0
      clear hcell
      have HST : Hid (∀ v : Nat, (u64s (List.replicate (m + 1) 0 ++ o)).set m (.int .u64 (v : Int)) = u64s (List.replicate m 0 ++ (v :: o))) := fun v => by
        rw [u64s_set, set_top]
      obtain ⟨p, hp⟩ : ∃ p, la[m] = p := ⟨_, rfl⟩
      rw [hp] at z1 hpx hp9 HN
      clear hp hpx
      have q0 : (0 : Int) ≤ (q : Int) * 1000000000 := by omega
      have q1 : (q : Int) * 1000000000 + (p : Int) < 1000000000000000000 := by omega
      go_wp2_with fail
      have e1 : ((q : Int) * 1000000000 + (p : Int)) / (d : Int) = (((q * 1000000000 + p) / d : Nat) : Int) := by simp
      have e2 : ((q : Int) * 1000000000 + (p : Int)) % (d : Int) = (((q * 1000000000 + p) % d : Nat) : Int) := by simp
      rw [e1, e2]
      have h1 := HO.out.stored m (.int .u64 (((q * 1000000000 + p) / d : Nat) : Int))
      rw [HST.out] at h1
      go_roundw
      case rel => exact ⟨m, (q * 1000000000 + p) / d :: o, (q * 1000000000 + p) % d, by omega, by first | rfl | go_num, rfl, HN.out, Lib.hid h1.1, Lib.hid (HW.out.grown h1.2 hsz (fun g e => by cases e; exact Nat.le_refl _))⟩
      case measure => simp [intOf]
end Go.Proofs.YtpphnnijnnfngaaGreatDoor

/-
  Natural numbers of package num: the walks of over (by one digit, or by a greater number) and common.
-/
namespace Go.Proofs.YtpphnnijnnfngaaGreatDoor
open Go.RowKit Al Nat9

/-- Two natural numbers are handed back. -/
def NaPT (v r : Nat) (w : World) (e : Ending) (w' : World) : Prop := ∃ A c D d, e = .returned (.tuple #[.slice A (dg v).length c, .slice D (dg r).length d]) ∧ NaIn w' A c v ∧ NaIn w' D d r ∧ Below w.heap.size w w'
theorem cmp_neg {x y : Nat} (h : x < y) : cmpN x y = -1 := by unfold cmpN; rw [if_pos h]
theorem cmp_nn {x y : Nat} (h : y ≤ x) : 0 ≤ cmpN x y := by
  unfold cmpN
  rw [if_neg (by omega)]
  split <;> omega
theorem na_zero (w : World) : NaIn w none 0 0 := by
  unfold NaIn
  rw [dg_zero]
  exact ⟨Sl.nilS _ _ _, fun h => absurd h (by simp)⟩
set_option maxRecDepth 100000 in
set_option maxHeartbeats 4000000 in
theorem over_lt (x y : Nat) (A D : Option Addr) (c d : Nat) (w : World) (ha : NaIn w A c x) (hb : NaIn w D d y) (hlt : x < y) : Calls Tryz.prog 90 #[.slice A (dg x).length c, .slice D (dg y).length d] w (NaPT (x / y) (x % y) w) := by
  have HA := Lib.hid ha
  have HC := compare_ x y A D c d w ha hb
  rw [cmp_neg hlt] at HC
  have HCC := Lib.hid HC
  clear ha hb HC
  rw [Nat.div_eq_of_lt hlt, Nat.mod_eq_of_lt hlt]
  have h0 : (dg 0).length = 0 := by rw [dg_zero]; rfl
  obtain ⟨la, hla⟩ : ∃ l, (dg x).length = l := ⟨_, rfl⟩
  obtain ⟨lb, hlb⟩ : ∃ l, (dg y).length = l := ⟨_, rfl⟩
  have HLA := Lib.hid hla
  rw [hla, hlb] at HCC
  rw [hla, hlb]
  clear hla hlb
  go_enter Tryz.func90, Tryz.ntmps90
  go_wp2_with fail
  refine HCC.out.mono ?_
  rintro e w1 ⟨rfl, hb⟩
  have HB1 := Lib.hid hb
  clear hb
  go_wp2_with fail
  go_ret2
  exact ⟨none, 0, A, c, by rw [h0, HLA.out]; rfl, na_zero _, HA.out.below HB1.out, HB1.out⟩
set_option maxRecDepth 100000 in
set_option maxHeartbeats 4000000 in
theorem over_one (x y : Nat) (A D : Option Addr) (c d : Nat) (w : World) (ha : NaIn w A c x) (hb : NaIn w D d y) (hy : 0 < y) (hle : y ≤ x) (hy9 : y < 1000000000) (hx : (dg x).length ≤ 1048576) : Calls Tryz.prog 90 #[.slice A (dg x).length c, .slice D (dg y).length d] w (NaPT (x / y) (x % y) w) := by
  have HA := Lib.hid ha
  have HB := Lib.hid hb
  have HC := compare_ x y A D c d w ha hb
  have hcn := cmp_nn hle
  obtain ⟨cv, hcv⟩ : ∃ z, cmpN x y = z := ⟨_, rfl⟩
  rw [hcv] at HC hcn
  have HCC := Lib.hid HC
  clear ha hb HC hcv
  have hl1 : (dg y).length = 1 := by rw [dg_small hy hy9]; rfl
  obtain ⟨b1, o1, rfl, hb1, z1⟩ := S64.u64_at HB.out (k := 0) (by omega)
  have z2 : w.cell? ⟨b1, o1, none⟩ = some (.int .u64 (y : Int)) := by
    rw [Nat.add_zero] at z1
    rw [z1]
    congr 2
    have : (dg y)[0]'(by omega) = y := by
      have h := dg_small hy hy9
      have e := getElem_congr_coll (i := 0) h (w := by omega)
      rw [e]
      rfl
    rw [this]
  have HZ : Hid (∀ W, Below w.heap.size w W → W.cell? ⟨b1, o1, none⟩ = some (.int .u64 (y : Int))) := fun W hW => (hW.cell (p := ⟨b1, o1, none⟩) hb1).trans z2
  clear z1 z2
  have hmod : x % y < y := Nat.mod_lt _ hy
  obtain ⟨la, hla⟩ : ∃ l, (dg x).length = l := ⟨_, rfl⟩
  have HLA := Lib.hid hla
  rw [hla, hl1] at HCC
  rw [hla, hl1]
  rw [hla] at hx
  clear hla
  go_enter Tryz.func90, Tryz.ntmps90
  go_wp2_with fail
  refine HCC.out.mono ?_
  rintro e w1 ⟨rfl, hb⟩
  have HB1 := Lib.hid hb
  have hsz := hb.size
  clear hb
  have z3 := HZ.out w1 HB1.out
  have hb2 : b1 < w1.heap.size := by omega
  have HS := short_ x y A c w1 (HA.out.below HB1.out) hy hy9 (by rw [HLA.out]; exact hx)
  rw [HLA.out] at HS
  have HSS := Lib.hid HS
  clear HS
  go_wp2_with fail
  refine HSS.out.mono ?_
  rintro e w2 ⟨Q, qc, rfl, hq, hb⟩
  have HQ := Lib.hid hq
  have HB2 := Lib.hid (HB1.out.trans (hb.mono hsz))
  have hsz2 := HB2.out.size
  clear hq hb
  go_wp2_with fail
  refine (natural_ (x % y) w2 (by omega)).mono ?_
  rintro e w3 ⟨R, rc, rfl, hr, hb⟩
  have HR := Lib.hid hr
  have HQ3 := Lib.hid (HQ.out.below hb)
  have HB3 := Lib.hid (HB2.out.trans (hb.mono hsz2))
  clear hr hb
  go_wp2_with fail
  go_ret2
  exact ⟨Q, qc, R, rc, rfl, HQ3.out, HR.out, HB3.out⟩
theorem over_ (x y : Nat) (A D : Option Addr) (c d : Nat) (w : World) (ha : NaIn w A c x) (hb : NaIn w D d y) (hy : 0 < y) (hy9 : x < y ∨ y < 1000000000) (hx : (dg x).length ≤ 1048576) : Calls Tryz.prog 90 #[.slice A (dg x).length c, .slice D (dg y).length d] w (NaPT (x / y) (x % y) w) := by
  rcases Nat.lt_or_ge x y with h | h
  · exact over_lt x y A D c d w ha hb h
  · exact over_one x y A D c d w ha hb hy h (by omega) hx
/-- What a slice's first digit says: the measure of Euclid's loop. -/
def headU (b : Value) (wr : World) : Nat :=
  match b with
  | .slice (some p) (_ + 1) _ => match wr.cell? p with
    | some (.int _ z) => z.toNat
    | _ => 0
  | _ => 0
theorem headU_is {w : World} {D : Option Addr} {d v : Nat} (h : NaIn w D d v) (hv : v < 1000000000) : headU (.slice D (dg v).length d) w = v := by
  by_cases h0 : v = 0
  · subst h0
    rw [dg_zero]
    unfold headU
    cases D <;> rfl
  · have hs := dg_small (by omega) hv
    have hl1 : (dg v).length = 1 := by rw [hs]; rfl
    obtain ⟨b1, o1, rfl, hb1, z1⟩ := S64.u64_at h (k := 0) (by omega)
    rw [Nat.add_zero] at z1
    have : (dg v)[0]'(by omega) = v := by
      have e := getElem_congr_coll (i := 0) hs (w := by omega)
      rw [e]
      rfl
    rw [this] at z1
    rw [hl1]
    unfold headU
    simp only [z1]
    simp
def GcdRel (x y : Nat) (w : World) (a b : Value) (wr : World) : Prop :=
  ∃ (u v : Nat) (A D : Option Addr) (c d : Nat), a = .slice A (dg u).length c ∧ b = .slice D (dg v).length d ∧ u < 1000000000 ∧ v < 1000000000 ∧ Nat.gcd u v = Nat.gcd x y ∧ Hid (NaIn wr A c u) ∧ Hid (NaIn wr D d v) ∧ Hid (Below w.heap.size w wr)
theorem dg_short {v : Nat} (hv : v < 1000000000) : (dg v).length ≤ 1 := by
  by_cases h0 : v = 0
  · subst h0; rw [dg_zero]; exact Nat.zero_le _
  · rw [dg_small (by omega) hv]; exact Nat.le_refl _
set_option maxRecDepth 100000 in
set_option maxHeartbeats 4000000 in
theorem ncommon_ (x y : Nat) (A D : Option Addr) (c d : Nat) (w : World) (ha : NaIn w A c x) (hb : NaIn w D d y) (hx9 : x < 1000000000) (hy9 : y < 1000000000) : Calls Tryz.prog 89 #[.slice A (dg x).length c, .slice D (dg y).length d] w (NaT (Nat.gcd x y) w) := by
  have HA := Lib.hid ha
  have HB := Lib.hid hb
  clear ha hb
  go_enter Tryz.func89, Tryz.ntmps89
  go_wp2_with fail
  go_loopw [0, 1] (fun a b wr => GcdRel x y w a b wr) (fun _ b wr => headU b wr)
  case atStart => exact ⟨x, y, A, D, c, d, rfl, rfl, hx9, hy9, rfl, HA, HB, Lib.hid (Below.refl _ _)⟩
  case round =>
    obtain ⟨u, v, A1, D1, c1, d1, rfl, rfl, hu, hv, hg, HA1, HB1, HW⟩ := hrel
    have hsz := HW.out.size
    by_cases h0 : 0 < v
    · have hl : 0 < (dg v).length := by
        rcases Nat.eq_zero_or_pos (dg v).length with h | h
        · have := dg_len0.1 h
          omega
        · exact h
      have hl2 : (0 : Int) < ((dg v).length : Int) := by omega
      have HO := Lib.hid (over_ u v A1 D1 c1 d1 wr HA1.out HB1.out h0 (.inr hv) (Nat.le_trans (dg_short hu) (by omega)))
      have hmod := Nat.mod_lt u h0
      have HH := Lib.hid (headU_is HB1.out hv)
      have HG : Hid (Nat.gcd v (u % v) = Nat.gcd x y) := by
        show _ = _
        rw [← hg, Nat.gcd_comm u v, Nat.gcd_rec v u, Nat.gcd_comm]
      go_wp2_with fail
      refine HO.out.mono ?_
      rintro e w2 ⟨Q, qc, R, rc, rfl, -, hr, hb⟩
      have HR := Lib.hid hr
      have HB2 := Lib.hid (HB1.out.below hb)
      have HW2 := Lib.hid (HW.out.trans (hb.mono hsz))
      clear hr hb
      go_wp2_with fail
      go_roundw
      case rel => exact ⟨v, u % v, D1, R, d1, rc, rfl, rfl, hv, by omega, HG.out, HB2, HR, HW2⟩
      case measure =>
        rw [headU_is HR.out (by omega), HH.out]
        exact hmod
    · obtain rfl : v = 0 := by omega
      have hl : (dg 0).length = 0 := by rw [dg_zero]; rfl
      rw [Nat.gcd_zero_right] at hg
      go_wp2_with fail
      go_ret
      refine ⟨A1, c1, by rw [← hg]; rfl, ?_, HW.out⟩
      rw [← hg]
      exact HA1.out
end Go.Proofs.YtpphnnijnnfngaaGreatDoor

/-
  Natural numbers of package num: the walk of times.
-/
namespace Go.Proofs.YtpphnnijnnfngaaGreatDoor
open Go.RowKit Al Nat9

def TiRow (w : World) (N : Nat) (o : List Nat) (wr : World) : Prop := Hid (wr.ownsRow w.heap.size 157 1 (.slice (some ⟨w.heap.size, 0, none⟩) N N) N (u64s o)) ∧ Hid (Below w.heap.size w wr)
def TiRel (x y : Nat) (w : World) (N : Nat) (i : Value) (wr : World) : Prop :=
  ∃ (k : Nat) (p : List Nat), k ≤ (dg x).length ∧ i = .int .i64 (k : Int) ∧ DG p ∧ p.length = N ∧ val p = val ((dg x).take k) * y ∧ TiRow w N p wr
def TjRel (p : List Nat) (v m : Nat) (b : List Nat) (w : World) (N : Nat) (i cr : Value) (wr : World) : Prop :=
  ∃ (k : Nat) (o : List Nat) (q : Nat), k ≤ b.length ∧ i = .int .i64 (k : Int) ∧ cr = .int .u64 (q : Int) ∧ TimI p v m b k o q ∧ TiRow w N o wr
def TkRel (t : Nat) (w : World) (N : Nat) (j cr : Value) (wr : World) : Prop :=
  ∃ (k : Nat) (o : List Nat) (q : Nat), j = .int .i64 (k : Int) ∧ cr = .int .u64 (q : Int) ∧ k ≤ N ∧ CarI t N k o q ∧ TiRow w N o wr
theorem TiRow.at {w wr : World} {N : Nat} {o : List Nat} (h : TiRow w N o wr) {k : Nat} (hk : k < o.length) (hn : o.length = N) :
    wr.cell? ⟨w.heap.size, k, none⟩ = some (.int .u64 (o[k] : Int)) ∧ wr.frozen? ⟨w.heap.size, k, none⟩ = false ∧ w.heap.size < wr.heap.size := by
  refine ⟨?_, h.1.out.frozenAt k, (h.1.out.lt w.heap.size rfl).2⟩
  rw [h.1.out.cellAt k (by omega), u64s_at hk]
theorem TiRow.set {w wr : World} {N : Nat} {o : List Nat} (h : TiRow w N o wr) (k v : Nat) : TiRow w N (o.set k v) (wr.setCell ⟨w.heap.size, k, none⟩ (.int .u64 (v : Int))) := by
  have h1 := h.1.out.stored k (.int .u64 (v : Int))
  rw [u64s_set] at h1
  exact ⟨Lib.hid h1.1, Lib.hid (h.2.out.grown h1.2 h.2.out.size (fun g e => by cases e; exact Nat.le_refl _))⟩
set_option maxRecDepth 100000 in
set_option maxHeartbeats 8000000 in
theorem times_ (x y : Nat) (A D : Option Addr) (c d : Nat) (w : World) (ha : NaIn w A c x) (hb : NaIn w D d y) (hx : (dg x).length ≤ 1048576) (hy : (dg y).length ≤ 1048576) : Calls Tryz.prog 83 #[.slice A (dg x).length c, .slice D (dg y).length d] w (NaT (x * y) w) := by
  obtain ⟨i0, hi, hz0, hz1, hz2⟩ := info_parts infoU64
  have HA := Lib.hid ha
  have HB := Lib.hid hb
  clear ha hb
  obtain ⟨la, hla⟩ : ∃ l, dg x = l := ⟨_, rfl⟩
  obtain ⟨lb, hlb⟩ : ∃ l, dg y = l := ⟨_, rfl⟩
  have HLA := Lib.hid hla
  have HDA : Hid (DG la) := by show DG la; rw [← hla]; exact dg_dg x
  have HDB : Hid (DG lb) := by show DG lb; rw [← hlb]; exact dg_dg y
  have HVA : Hid (val la = x) := by show val la = x; rw [← hla, val_dg]
  have HVB : Hid (val lb = y) := by show val lb = y; rw [← hlb, val_dg]
  unfold NaIn at HA HB
  rw [hla] at HA hx ⊢
  rw [hlb] at HB hy ⊢
  clear hla hlb
  have h2 : (0 : Int) ≤ (la.length : Int) := by omega
  have h3 : (la.length : Int) ≤ 1048576 := by omega
  have h4 : (0 : Int) ≤ (lb.length : Int) := by omega
  have h5 : (lb.length : Int) ≤ 1048576 := by omega
  obtain ⟨N, hN⟩ : ∃ N, la.length + lb.length = N := ⟨_, rfl⟩
  go_enter Tryz.func83, Tryz.ntmps83
  go_wp2_with (at_make; refine wpList_make_full _ rfl _ _ 67 rfl w.heap.size 157 i0 (.int .u64 0) 1 Tryz.underlying67 hi hz0 hz1 _ _ _ _ N rfl rfl (by omega) (by omega) (by rw [hz2]; omega) (by unfold maxLen; omega) (Nat.le_refl _) ?_; intro w1 hown1 hg1)
  rw [made_u64] at hown1
  have HR1 : TiRow w N (List.replicate N 0) w1 := ⟨Lib.hid hown1, Lib.hid ((Below.refl _ _).grown hg1 (Nat.le_refl _) (fun g h => by cases h))⟩
  clear hown1 hg1
  have hz : ∀ m, val (List.replicate m 0) = 0 := fun m => by
    induction m with
    | zero => rfl
    | succ m ih => rw [List.replicate_succ]; show 0 + 1000000000 * _ = 0; rw [ih]
  go_loopw [20] (fun i wr => TiRel x y w N i wr) (fun i _ => la.length - (intOf i).toNat)
  case atStart => exact ⟨0, List.replicate N 0, Nat.zero_le _, rfl, fun d hd => by rw [(List.mem_replicate.1 hd).2]; omega, by simp, by rw [hz, List.take_zero]; simp [val], HR1⟩
  case round =>
    obtain ⟨i, p, hi2, rfl, hpd, hpl, hpv, HR⟩ := hrel
    clear HR1 hz
    have HPD := Lib.hid hpd
    have HPV := Lib.hid hpv
    clear hpd hpv
    rw [HLA.out] at hi2
    have hsz := HR.2.out.size
    by_cases hlt : i < la.length
    · obtain ⟨b1, o1, rfl, hb1, z1⟩ := (HA.out.below HR.2.out).u64_at hlt
      have hb1' : b1 < wr.heap.size := by omega
      have j0 : (0 : Int) ≤ (i : Int) := by omega
      have j1 : (i : Int) < (la.length : Int) := by omega
      have hv9 : la[i] < 1000000000 := HDA.out.at hlt
      have HT : Hid (val p + 1000000000 ^ i * (la[i] * y) = val ((dg x).take (i + 1)) * y) := by
        show _ = _
        rw [HPV.out, HLA.out, take_succ_val hlt, Nat.add_mul, Nat.mul_assoc]
      have HRM : Hid (val p + 1000000000 ^ i * (la[i] * y) < 1000000000 ^ N) := by
        have h := mul_room HDA.out HDB.out hlt
        rw [HVB.out, hN] at h
        show _ < _
        rw [HPV.out, HLA.out]
        exact h
      obtain ⟨v, hv⟩ : ∃ v, la[i] = v := ⟨_, rfl⟩
      rw [hv] at z1 hv9 HT HRM
      clear hv
      go_wp2_with fail
      go_loopw [27, 8] (fun k cr wz => TjRel p v i lb w N k cr wz) (fun k _ _ => lb.length - (intOf k).toNat)
      case atStart => exact ⟨0, p, 0, Nat.zero_le _, rfl, rfl, TimI.start HPD.out v i lb, HR⟩
      case round =>
        obtain ⟨k, o, q, hk, rfl, rfl, hI, HR2⟩ := hrel
        have HI := Lib.hid hI
        have hcar := hI.car
        have hol := hI.len
        clear hI z1
        have hsz2 := HR2.2.out.size
        by_cases hlk : k < lb.length
        · obtain ⟨b2, o2, rfl, hb2, z2⟩ := (HB.out.below HR2.2.out).u64_at hlk
          have hik : i + k < o.length := by omega
          obtain ⟨r0, r1, hg2⟩ := HR2.at hik (by omega)
          have hu9 : lb[k] < 1000000000 := HDB.out.at hlk
          have ho9 : o[i + k] < 1000000000 := HI.out.ds.at hik
          have HN := Lib.hid (HI.out.step HDB.out hv9 hlk hik)
          obtain ⟨u, hu⟩ : ∃ u, lb[k] = u := ⟨_, rfl⟩
          obtain ⟨s, hs⟩ : ∃ s, o[i + k] = s := ⟨_, rfl⟩
          rw [hu] at z2 hu9 HN
          rw [hs] at r0 ho9 HN
          clear hu hs
          have hvu : v * u ≤ 999999999 * 999999999 := Nat.mul_le_mul (by omega) (by omega)
          obtain ⟨vu, hvu2⟩ : ∃ t, v * u = t := ⟨_, rfl⟩
          have hm1 : (v : Int) * (u : Int) = (vu : Int) := by rw [← hvu2]; exact (Int.natCast_mul v u).symm
          rw [hvu2] at HN hvu
          have k0 : (0 : Int) ≤ (k : Int) := by omega
          have k1 : (k : Int) < (lb.length : Int) := by omega
          have k2 : (i : Int) + (k : Int) < (N : Int) := by omega
          have hb2' : b2 < wr.heap.size := by have := HR2.2.out.size; omega
          go_wp2_with fail
          have e1 : ((q : Int) + ((s : Int) + (vu : Int))) % 1000000000 = (((q + (s + vu)) % 1000000000 : Nat) : Int) := by omega
          have e2 : ((q : Int) + ((s : Int) + (vu : Int))) / 1000000000 = (((q + (s + vu)) / 1000000000 : Nat) : Int) := by omega
          rw [e1, e2]
          go_roundw
          case rel => exact ⟨k + 1, _, (q + (s + vu)) / 1000000000, by omega, by go_num, rfl, HN.out, HR2.set _ _⟩
          case measure => simp [intOf]; omega
        · obtain rfl : k = lb.length := by omega
          have HCI : Hid (CarI (val p + 1000000000 ^ i * (v * y)) N (i + lb.length) o q) := by
            have h := HI.out.eq
            rw [List.take_length, HVB.out] at h
            exact ⟨HI.out.ds, by rw [hol, hpl], hcar, h⟩
          clear HI
          go_wp2_with fail
          go_loopw [11, 8] (fun j cr wz => TkRel (val p + 1000000000 ^ i * (v * y)) w N j cr wz) (fun j _ _ => N - (intOf j).toNat)
          case atStart => exact ⟨i + lb.length, o, q, by go_num, rfl, by omega, HCI.out, HR2⟩
          case round =>
            obtain ⟨j, o', q', rfl, rfl, hj, hC, HR3⟩ := hrel
            have HC := Lib.hid hC
            have hcar' := hC.car
            have hol' := hC.len
            clear hC
            by_cases hq : 0 < q'
            · have hjo := HC.out.room HRM.out hq
              obtain ⟨r0, r1, hg2⟩ := HR3.at hjo (by omega)
              have ho9 : o'[j] < 1000000000 := HC.out.ds.at hjo
              have HN := Lib.hid (HC.out.step hjo)
              obtain ⟨s, hs⟩ : ∃ s, o'[j] = s := ⟨_, rfl⟩
              rw [hs] at r0 ho9 HN
              clear hs
              have q0 : (0 : Int) < (q' : Int) := by omega
              have k0 : (0 : Int) ≤ (j : Int) := by omega
              have k1 : (j : Int) < (N : Int) := by omega
              go_wp2_with fail
              have e1 : ((q' : Int) + (s : Int)) % 1000000000 = (((q' + s) % 1000000000 : Nat) : Int) := by omega
              have e2 : ((q' : Int) + (s : Int)) / 1000000000 = (((q' + s) / 1000000000 : Nat) : Int) := by omega
              rw [e1, e2]
              go_roundw
              case rel => exact ⟨j + 1, _, (q' + s) / 1000000000, by go_num, rfl, by omega, HN.out, HR3.set _ _⟩
              case measure => simp [intOf]; omega
            · obtain rfl : q' = 0 := by omega
              have HV : Hid (val o' = val ((dg x).take (i + 1)) * y) := by
                have h := HC.out.eq
                rw [Nat.mul_zero, Nat.add_zero, HT.out] at h
                exact h
              go_wp2_with fail
              go_roundw
              case rel => exact ⟨i + 1, o', by rw [HLA.out]; omega, by go_num, HC.out.ds, hol', HV.out, HR3⟩
              case measure => simp [intOf]; omega
    · obtain rfl : i = la.length := by omega
      have hv : val p = x * y := by
        rw [HPV.out, HLA.out, List.take_length, HVA.out]
      have hs := S64.of_own HR.1.out
      rw [← hpl] at hs
      have HL := lean_ p _ p.length wr HPD.out hs
      rw [hv, hpl] at HL
      have HLL := Lib.hid HL
      clear HL hs hv
      go_wp2_with fail
      refine HLL.out.mono ?_
      rintro e w' ⟨A', c', rfl, hn, hb⟩
      have HN := Lib.hid hn
      have HW2 := Lib.hid (HR.2.out.trans (hb.mono hsz))
      clear hn hb
      go_wp2_with fail
      go_ret
      exact ⟨A', c', rfl, HN.out, HW2.out⟩
end Go.Proofs.YtpphnnijnnfngaaGreatDoor

/-
  Rational numbers of package num in memory; the walks of added, reduced.
-/
namespace Go.Proofs.YtpphnnijnnfngaaGreatDoor
open Go.RowKit Al Nat9

/-- A store into another block. -/
theorem heap_store {w : World} {B o b : Nat} {v : Value} (h : b ≠ B) : (w.setCell ⟨B, o, none⟩ v).heap[b]? = w.heap[b]? := by
  show (w.heap.modify B _)[b]? = _
  rw [Array.getElem?_modify]
  simp [Ne.symm h]
theorem cell_of_heap {w w' : World} {b o : Nat} (h : w'.heap[b]? = w.heap[b]?) : w'.cell? ⟨b, o, none⟩ = w.cell? ⟨b, o, none⟩ := by
  simp [World.cell?, h]
/-- Naturals lie apart from a block that holds no numbers. -/
theorem NaIn.apart {w w' : World} {A : Option Addr} {c v B : Nat} (h : NaIn w A c v) (hB : ∀ j k z, w.cell? ⟨B, j, none⟩ ≠ some (.int k z)) (hs : w.heap.size ≤ w'.heap.size) (hk : ∀ b, b ≠ B → b < w.heap.size → w'.heap[b]? = w.heap[b]?) : NaIn w' A c v := by
  unfold NaIn at *
  refine ⟨⟨h.sl.len, h.cap, h.max, h.nil_, fun h0 => ?_⟩, fun h0 => ?_⟩
  · obtain ⟨b, off, e, hb, hc⟩ := h.sl.at_ h0
    have h1 := hc 0 _ (u64s_at h0)
    have hne : b ≠ B := fun e => hB _ _ _ (e ▸ h1)
    exact ⟨b, off, e, Nat.lt_of_lt_of_le hb hs, fun j u hu => (cell_of_heap (hk b hne hb)).trans (hc j u hu)⟩
  · obtain ⟨b, off, e, hb, hc⟩ := h.sl.at_ h0
    have h1 := hc 0 _ (u64s_at h0)
    have hne : b ≠ B := fun e => hB _ _ _ (e ▸ h1)
    obtain ⟨b2, o2, cs, fr, e2, hb2, ht⟩ := h.tag h0
    obtain ⟨rfl, rfl⟩ : b = b2 ∧ off = o2 := by rw [e] at e2; cases e2; exact ⟨rfl, rfl⟩
    exact ⟨b, off, cs, fr, e, Nat.lt_of_lt_of_le hb hs, (hk b hne hb).trans ht⟩
/-- Naturals lie apart from a row of other things. -/
theorem NaIn.apartT {w w' : World} {A : Option Addr} {c v : Nat} {row : Option Nat} (h : NaIn w A c v) (hr : ∀ g, row = some g → ∃ cs T fr, w.heap[g]? = some (.cells cs T fr) ∧ T ≠ 157) (hg : w.grownBy w' row) : NaIn w' A c v := by
  unfold NaIn at *
  have key : 0 < (dg v).length → ∃ b o, A = some ⟨b, o, none⟩ ∧ b < w.heap.size ∧ w'.heap[b]? = w.heap[b]? := fun h0 => by
    obtain ⟨b, o, cs, fr, e, hb, ht⟩ := h.tag h0
    refine ⟨b, o, e, hb, hg.block b hb (fun e2 => ?_)⟩
    obtain ⟨cs2, T2, fr2, h2, hT⟩ := hr b e2.symm
    rw [h2] at ht
    cases ht
    exact hT rfl
  refine ⟨⟨h.sl.len, h.cap, h.max, h.nil_, fun h0 => ?_⟩, fun h0 => ?_⟩
  · obtain ⟨b, off, e, hb, hc⟩ := h.sl.at_ h0
    obtain ⟨b2, o2, e2, hb2, hk⟩ := key h0
    obtain ⟨rfl, rfl⟩ : b = b2 ∧ off = o2 := by rw [e] at e2; cases e2; exact ⟨rfl, rfl⟩
    exact ⟨b, off, e, Nat.lt_of_lt_of_le hb hg.size, fun j u hu => (cell_of_heap hk).trans (hc j u hu)⟩
  · obtain ⟨b, off, cs, fr, e, hb, ht⟩ := h.tag h0
    obtain ⟨b2, o2, e2, hb2, hk⟩ := key h0
    obtain ⟨rfl, rfl⟩ : b = b2 ∧ off = o2 := by rw [e] at e2; cases e2; exact ⟨rfl, rfl⟩
    exact ⟨b, off, cs, fr, e, Nat.lt_of_lt_of_le hb hg.size, hk.trans ht⟩
/-- A sign and a natural number are handed back. -/
def SgNT (s : Bool × Nat) (w : World) (e : Ending) (w' : World) : Prop := ∃ A c, e = .returned (.tuple #[.bool s.1, .slice A (dg s.2).length c]) ∧ NaIn w' A c s.2 ∧ Below w.heap.size w w'
set_option maxRecDepth 100000 in
set_option maxHeartbeats 4000000 in
theorem added_ (am bm : Bool) (x y : Nat) (A D : Option Addr) (c d : Nat) (w : World) (ha : NaIn w A c x) (hb : NaIn w D d y) (hx : (dg x).length ≤ 1048576) (hy : (dg y).length ≤ 1048576) :
    Calls Tryz.prog 82 #[.bool am, .slice A (dg x).length c, .bool bm, .slice D (dg y).length d] w (SgNT (addS am x bm y) w) := by
  have HA := Lib.hid ha
  have HB := Lib.hid hb
  have HP := Lib.hid (plus_ x y A D c d w ha hb hx hy)
  have HC := compare_ x y A D c d w ha hb
  obtain ⟨cv, hcv⟩ : ∃ z, cmpN x y = z := ⟨_, rfl⟩
  rw [hcv] at HC
  have HCC := Lib.hid HC
  have HM1 : Hid (y ≤ x → ∀ W, Below w.heap.size w W → Calls Tryz.prog 120 #[.slice A (dg x).length c, .slice D (dg y).length d] W (NaT (x - y) W)) := fun h W hW => minus_ x y A D c d W (HA.out.below hW) (HB.out.below hW) h hx
  have HM2 : Hid (x ≤ y → ∀ W, Below w.heap.size w W → Calls Tryz.prog 120 #[.slice D (dg y).length d, .slice A (dg x).length c] W (NaT (y - x) W)) := fun h W hW => minus_ y x D A d c W (HB.out.below hW) (HA.out.below hW) h hy
  clear ha hb HC hx hy
  unfold addS
  by_cases hs : am = bm
  · subst hs
    rw [if_pos rfl]
    have t1 : (am == am) = true := by simp
    go_enter Tryz.func82, Tryz.ntmps82
    go_wp2_with fail
    refine HP.out.mono ?_
    rintro e w1 ⟨Q, qc, rfl, hq, hb⟩
    have HQ := Lib.hid hq
    have HW := Lib.hid hb
    clear hq hb
    go_wp2_with fail
    go_ret2
    exact ⟨Q, qc, rfl, HQ.out, HW.out⟩
  · rw [if_neg hs]
    have t1 : (am == bm) = false := by simpa using hs
    by_cases hle : y ≤ x
    · rw [if_pos hle]
      have hc0 : 0 ≤ cv := by rw [← hcv]; exact cmp_nn hle
      clear hcv
      go_enter Tryz.func82, Tryz.ntmps82
      go_wp2_with fail
      refine HCC.out.mono ?_
      rintro e w1 ⟨rfl, hb⟩
      have HW := Lib.hid hb
      have hsz := hb.size
      clear hb
      go_wp2_with fail
      refine (HM1.out hle _ HW.out).mono ?_
      rintro e w2 ⟨Q, qc, rfl, hq, hb⟩
      have HQ := Lib.hid hq
      have HW2 := Lib.hid (HW.out.trans (hb.mono hsz))
      clear hq hb
      go_wp2_with fail
      go_ret2
      exact ⟨Q, qc, rfl, HQ.out, HW2.out⟩
    · rw [if_neg hle]
      have hc0 : ¬ 0 ≤ cv := by rw [← hcv, cmp_neg (by omega)]; decide
      clear hcv
      go_enter Tryz.func82, Tryz.ntmps82
      go_wp2_with fail
      refine HCC.out.mono ?_
      rintro e w1 ⟨rfl, hb⟩
      have HW := Lib.hid hb
      have hsz := hb.size
      clear hb
      go_wp2_with fail
      refine (HM2.out (by omega) _ HW.out).mono ?_
      rintro e w2 ⟨Q, qc, rfl, hq, hb⟩
      have HQ := Lib.hid hq
      have HW2 := Lib.hid (HW.out.trans (hb.mono hsz))
      clear hq hb
      go_wp2_with fail
      go_ret2
      exact ⟨Q, qc, rfl, HQ.out, HW2.out⟩
/-- The box in which a rational number is made. -/
theorem box_cells {w W : World} (h : Below (w.heap.size + 1) (w.alloc (.cells #[.bool false, .slice none 0 0, .slice none 0 0] 69)) W) :
    (∀ j k z, W.cell? ⟨w.heap.size, j, none⟩ ≠ some (.int k z)) ∧ W.cell? ⟨w.heap.size, 0, none⟩ = some (.bool false) ∧ W.cell? ⟨w.heap.size, 1, none⟩ = some (.slice none 0 0) ∧ W.cell? ⟨w.heap.size, 2, none⟩ = some (.slice none 0 0) ∧
      W.frozen? ⟨w.heap.size, 0, none⟩ = false ∧ W.frozen? ⟨w.heap.size, 1, none⟩ = false ∧ W.frozen? ⟨w.heap.size, 2, none⟩ = false ∧ w.heap.size < W.heap.size := by
  have e := fun j => h.cell (p := ⟨w.heap.size, j, none⟩) (Nat.lt_succ_self _)
  have f := fun j => h.frozen (p := ⟨w.heap.size, j, none⟩) (Nat.lt_succ_self _)
  have hz := h.size
  simp at hz
  refine ⟨fun j k z hc => ?_, ?_, ?_, ?_, ?_, ?_, ?_, by omega⟩
  · rw [e, World.cell?_alloc_new] at hc
    match j with
    | 0 => simp at hc
    | 1 => simp at hc
    | 2 => simp at hc
    | j + 3 => simp at hc
  all_goals first | (rw [e]; simp [go_sem]; done) | (rw [f]; simp [go_sem])
/-- A rational number is handed back. -/
def RatT (r : Rat9) (w : World) (e : Ending) (w' : World) : Prop := ∃ A c D d, e = .returned (.agg #[.bool r.m, .slice A (dg r.n).length c, .slice D (dg r.d).length d]) ∧ NaIn w' A c r.n ∧ NaIn w' D d r.d ∧ Below w.heap.size w w'
/-- What three stores into the box leave of a natural number. -/
theorem box_keeps {w W : World} (h : Below (w.heap.size + 1) (w.alloc (.cells #[.bool false, .slice none 0 0, .slice none 0 0] 69)) W) {A : Option Addr} {c v : Nat} (hn : NaIn W A c v) (p q r : Value) :
    NaIn (((W.setCell ⟨w.heap.size, 0, none⟩ p).setCell ⟨w.heap.size, 1, none⟩ q).setCell ⟨w.heap.size, 2, none⟩ r) A c v := by
  refine hn.apart (B := w.heap.size) (box_cells h).1 (by simp) (fun b hb _ => ?_)
  rw [heap_store hb, heap_store hb, heap_store hb]
set_option maxRecDepth 100000 in
set_option maxHeartbeats 4000000 in
theorem reduced_ (m : Bool) (x y : Nat) (A D : Option Addr) (c d : Nat) (w : World) (ha : NaIn w A c x) (hb : NaIn w D d y) (hx9 : x < 1000000000) (hy0 : 0 < y) (hy9 : y < 1000000000) :
    Calls Tryz.prog 60 #[.bool m, .slice A (dg x).length c, .slice D (dg y).length d] w (RatT (red m x y) w) := by
  have HA := Lib.hid ha
  have HB := Lib.hid hb
  clear ha hb
  unfold red
  by_cases h0 : x = 0
  · subst h0
    rw [if_pos rfl]
    have hl : (dg 0).length = 0 := by rw [dg_zero]; rfl
    have hl1 : (dg 1).length = 1 := by rw [dg_one]; rfl
    go_enter Tryz.func60, Tryz.ntmps60
    go_wp2_with fail
    refine (one_ _).mono ?_
    rintro e w1 ⟨Q, qc, rfl, hq, hb⟩
    have HQ := Lib.hid hq
    have HBX : Hid (Below (w.heap.size + 1) (w.alloc (.cells #[.bool false, .slice none 0 0, .slice none 0 0] 69)) w1) := by
      show Below _ _ _
      simpa using hb
    have HW : Hid (Below w.heap.size w w1) := (show Below w.heap.size w _ from (by repeat (first | exact Below.refl _ _ | assumption | refine below_drewN ?_ _ | refine Below.drew ?_ | refine Below.setCell ?_ (by first | omega | (simp; done) | (simp; omega)) _ | refine Below.alloc ?_ (by first | omega | (simp; done) | (simp; omega)) _))).trans (hb.mono (by simp))
    clear hq hb
    obtain ⟨-, q0, q1, q2, f0, f1, f2, hlt⟩ := box_cells HBX.out
    go_wp2_with fail
    refine bodyPost_ret (v := .agg #[.bool false, .slice none 0 0, .slice Q 1 qc]) (by simp [results, Tryz.results60, go_sem, q0, q1, q2]) rfl ⟨none, 0, Q, qc, by rw [hl, hl1], ?_, box_keeps HBX.out HQ.out _ _ _, (by repeat (first | exact Below.refl _ _ | exact (HW).out | refine below_drewN ?_ _ | refine Below.drew ?_ | refine Below.setCell ?_ (by first | omega | (simp; done) | (simp; omega)) _ | refine Below.alloc ?_ (by first | omega | (simp; done) | (simp; omega)) _))⟩
    exact na_zero _
  · rw [if_neg h0]
    have hlx : 0 < (dg x).length := Nat.pos_of_ne_zero (fun h => h0 (dg_len0.1 h))
    have hg0 : 0 < Nat.gcd x y := Nat.gcd_pos_of_pos_right _ hy0
    have hg9 : Nat.gcd x y < 1000000000 := Nat.lt_of_le_of_lt (Nat.le_of_dvd hy0 (Nat.gcd_dvd_right x y)) hy9
    obtain ⟨g, hg⟩ : ∃ g, Nat.gcd x y = g := ⟨_, rfl⟩
    rw [hg] at hg0 hg9 ⊢
    have hlg : (dg g).length = 1 := by rw [dg_small hg0 hg9]; rfl
    have t0 : ((dg x).length == 0) = false := beq_eq_false_iff_ne.2 (by omega)
    have t1 : (((dg x).length : Int) == 0) = false := beq_eq_false_iff_ne.2 (by omega)
    have HCM : Hid (∀ W, Below w.heap.size w W → Calls Tryz.prog 89 #[.slice A (dg x).length c, .slice D (dg y).length d] W (NaT g W)) := fun W hW => by
      have h := ncommon_ x y A D c d W (HA.out.below hW) (HB.out.below hW) hx9 hy9
      rw [hg] at h
      exact h
    have hsx := dg_short hx9
    have hsy := dg_short hy9
    clear hg
    go_enter Tryz.func60, Tryz.ntmps60
    go_wp2_with fail
    refine (HCM.out _ (by repeat (first | exact Below.refl _ _ | assumption | refine below_drewN ?_ _ | refine Below.drew ?_ | refine Below.setCell ?_ (by first | omega | (simp; done) | (simp; omega)) _ | refine Below.alloc ?_ (by first | omega | (simp; done) | (simp; omega)) _))).mono ?_
    rintro e w1 ⟨G, gc, rfl, hn, hb⟩
    have HG := Lib.hid hn
    have HBX : Hid (Below (w.heap.size + 1) (w.alloc (.cells #[.bool false, .slice none 0 0, .slice none 0 0] 69)) w1) := by
      show Below _ _ _
      simpa using hb
    have HW : Hid (Below w.heap.size w w1) := (show Below w.heap.size w _ from (by repeat (first | exact Below.refl _ _ | assumption | refine below_drewN ?_ _ | refine Below.drew ?_ | refine Below.setCell ?_ (by first | omega | (simp; done) | (simp; omega)) _ | refine Below.alloc ?_ (by first | omega | (simp; done) | (simp; omega)) _))).trans (hb.mono (by simp))
    have hsz := HW.out.size
    clear hn hb
    obtain ⟨gb, go, rfl, hgb, z1⟩ := S64.u64_at HG.out (k := 0) (by omega)
    have z2 : w1.cell? ⟨gb, go, none⟩ = some (.int .u64 (g : Int)) := by
      rw [Nat.add_zero] at z1
      rw [z1]
      congr 2
      have e := getElem_congr_coll (i := 0) (dg_small hg0 hg9) (w := by omega)
      rw [e]
      rfl
    clear z1
    rw [hlg]
    by_cases hg1 : g = 1
    · subst hg1
      rw [Nat.div_one, Nat.div_one]
      obtain ⟨-, q0, q1, q2, f0, f1, f2, hlt⟩ := box_cells HBX.out
      go_wp2_with fail
      refine bodyPost_ret (v := .agg #[.bool m, .slice A (dg x).length c, .slice D (dg y).length d]) (by simp [results, Tryz.results60, go_sem, q0, q1, q2]) rfl ⟨A, c, D, d, (by first | rfl | simp), (by first | exact box_keeps HBX.out (HA.out.below HW.out) _ _ _ | (show NaIn _ A c (x / 1); rw [Nat.div_one]; exact box_keeps HBX.out (HA.out.below HW.out) _ _ _)), (by first | exact box_keeps HBX.out (HB.out.below HW.out) _ _ _ | (show NaIn _ D d (y / 1); rw [Nat.div_one]; exact box_keeps HBX.out (HB.out.below HW.out) _ _ _)), (by repeat (first | exact Below.refl _ _ | exact (HW).out | refine below_drewN ?_ _ | refine Below.drew ?_ | refine Below.setCell ?_ (by first | omega | (simp; done) | (simp; omega)) _ | refine Below.alloc ?_ (by first | omega | (simp; done) | (simp; omega)) _))⟩
    · have hgl : (1 : Int) < (g : Int) := by omega
      have HO1 : Hid (∀ W, Below w1.heap.size w1 W → Calls Tryz.prog 90 #[.slice A (dg x).length c, .slice (some ⟨gb, go, none⟩) 1 gc] W (NaPT (x / g) (x % g) W)) := fun W hW => by
        have h := over_ x g A (some ⟨gb, go, none⟩) c gc W ((HA.out.below HW.out).below hW) (HG.out.below hW) hg0 (.inr hg9) (by omega)
        rw [hlg] at h
        exact h
      have HO2 : Hid (∀ W, Below w1.heap.size w1 W → Calls Tryz.prog 90 #[.slice D (dg y).length d, .slice (some ⟨gb, go, none⟩) 1 gc] W (NaPT (y / g) (y % g) W)) := fun W hW => by
        have h := over_ y g D (some ⟨gb, go, none⟩) d gc W ((HB.out.below HW.out).below hW) (HG.out.below hW) hg0 (.inr hg9) (by omega)
        rw [hlg] at h
        exact h
      go_wp2_with fail
      refine (HO1.out _ (Below.refl _ _)).mono ?_
      rintro e w2 ⟨Q, qc, R, rc, rfl, hq, -, hb⟩
      have HQ := Lib.hid hq
      have HW2 := Lib.hid hb
      have hsz2 := hb.size
      clear hq hb z2
      go_wp2_with fail
      refine (HO2.out _ HW2.out).mono ?_
      rintro e w3 ⟨Q2, qc2, R2, rc2, rfl, hq, -, hb⟩
      have HQ2 := Lib.hid hq
      have HQ1 := Lib.hid (HQ.out.below hb)
      have HW3 := Lib.hid (HW2.out.trans (hb.mono hsz2))
      have hsz3 := HW3.out.size
      clear hq hb
      have HBX3 : Hid (Below (w.heap.size + 1) (w.alloc (.cells #[.bool false, .slice none 0 0, .slice none 0 0] 69)) w3) := HBX.out.trans (HW3.out.mono (by have := HBX.out.size; simp at this; omega))
      have HWW : Hid (Below w.heap.size w w3) := HW.out.trans (HW3.out.mono hsz)
      obtain ⟨-, q0, q1, q2, f0, f1, f2, hlt⟩ := box_cells HBX3.out
      go_wp2_with fail
      refine bodyPost_ret (v := .agg #[.bool m, .slice Q (dg (x / g)).length qc, .slice Q2 (dg (y / g)).length qc2]) (by simp [results, Tryz.results60, go_sem, q0, q1, q2]) rfl ⟨Q, qc, Q2, qc2, rfl, box_keeps HBX3.out HQ1.out _ _ _, box_keeps HBX3.out HQ2.out _ _ _, (by repeat (first | exact Below.refl _ _ | exact (HWW).out | refine below_drewN ?_ _ | refine Below.drew ?_ | refine Below.setCell ?_ (by first | omega | (simp; done) | (simp; omega)) _ | refine Below.alloc ?_ (by first | omega | (simp; done) | (simp; omega)) _))⟩
end Go.Proofs.YtpphnnijnnfngaaGreatDoor

/-
  Rational numbers of package num: the walks of zero, negative, isReal.
-/
namespace Go.Proofs.YtpphnnijnnfngaaGreatDoor
open Go.RowKit Al Nat9

@[reducible] def Nat9.Rat9.val (r : Rat9) (A : Option Addr) (c : Nat) (D : Option Addr) (d : Nat) : Value := .agg #[.bool r.m, .slice A (dg r.n).length c, .slice D (dg r.d).length d]
theorem len_zero (v : Nat) : ((dg v).length == 0) = decide (v = 0) := by
  by_cases h : v = 0
  · subst h; rw [dg_zero]; rfl
  · have : (dg v).length ≠ 0 := fun e => h (dg_len0.1 e)
    simp [h, this]
set_option maxRecDepth 100000 in
theorem zero_ (r : Rat9) (A D : Option Addr) (c d : Nat) (w : World) : Calls Tryz.prog 55 #[r.val A c D d] w fun e w' => e = .returned (.bool (decide (r.n = 0))) ∧ Below w.heap.size w w' := by
  have h := len_zero r.n
  have h2 : (((dg r.n).length : Int) == 0) = decide (r.n = 0) := by
    rw [← h]
    by_cases h0 : (dg r.n).length = 0
    · simp [h0]
    · have : ((dg r.n).length : Int) ≠ 0 := by omega
      rw [beq_eq_false_iff_ne.2 h0, beq_eq_false_iff_ne.2 this]
  go_enter Tryz.func55, Tryz.ntmps55
  go_wp2_with fail
  go_ret
  refine ⟨?_, (Below.refl _ _).alloc (Nat.le_refl _) _⟩
  first | rfl | (simp [h]; done) | (simp [h2]; done) | (simp [dg_nil]; done)
set_option maxRecDepth 100000 in
set_option maxHeartbeats 1000000 in
theorem negative_ (r : Rat9) (A D : Option Addr) (c d : Nat) (w : World) (ha : NaIn w A c r.n) (hb : NaIn w D d r.d) : Calls Tryz.prog 49 #[r.val A c D d] w (RatT r.neg w) := by
  have HA := Lib.hid ha
  have HB := Lib.hid hb
  clear ha hb
  obtain ⟨m, n, q⟩ := r
  cases m with
  | true =>
    go_enter Tryz.func49, Tryz.ntmps49
    go_wp2_with fail
    refine bodyPost_ret (v := .agg #[.bool false, .slice A (dg n).length c, .slice D (dg q).length d]) (by simp [results, Tryz.results49, go_sem]) rfl ⟨A, c, D, d, rfl, HA.out.below (by repeat (first | exact Below.refl _ _ | assumption | refine below_drewN ?_ _ | refine Below.drew ?_ | refine Below.setCell ?_ (by first | omega | (simp; done) | (simp; omega)) _ | refine Below.alloc ?_ (by first | omega | (simp; done) | (simp; omega)) _)), HB.out.below (by repeat (first | exact Below.refl _ _ | assumption | refine below_drewN ?_ _ | refine Below.drew ?_ | refine Below.setCell ?_ (by first | omega | (simp; done) | (simp; omega)) _ | refine Below.alloc ?_ (by first | omega | (simp; done) | (simp; omega)) _)), (by repeat (first | exact Below.refl _ _ | assumption | refine below_drewN ?_ _ | refine Below.drew ?_ | refine Below.setCell ?_ (by first | omega | (simp; done) | (simp; omega)) _ | refine Below.alloc ?_ (by first | omega | (simp; done) | (simp; omega)) _))⟩
  | false =>
    have hl : decide (0 < (dg n).length) = decide (0 < n) := by
      have h := len_zero n
      by_cases h0 : n = 0
      · subst h0; rw [dg_zero]; rfl
      · have : (dg n).length ≠ 0 := fun e => h0 (dg_len0.1 e)
        rw [decide_eq_true (by omega), decide_eq_true (by omega)]
    go_enter Tryz.func49, Tryz.ntmps49
    go_wp2_with fail
    have hiff : 0 < n ↔ 0 < (dg n).length := by
      have := dg_len0 (n := n)
      omega
    refine bodyPost_ret (v := .agg #[.bool (decide (0 < (dg n).length)), .slice A (dg n).length c, .slice D (dg q).length d]) (by simp [results, Tryz.results49, go_sem]; exact hiff) rfl ⟨A, c, D, d, by rw [hl]; rfl, HA.out.below (by repeat (first | exact Below.refl _ _ | assumption | refine below_drewN ?_ _ | refine Below.drew ?_ | refine Below.setCell ?_ (by first | omega | (simp; done) | (simp; omega)) _ | refine Below.alloc ?_ (by first | omega | (simp; done) | (simp; omega)) _)), HB.out.below (by repeat (first | exact Below.refl _ _ | assumption | refine below_drewN ?_ _ | refine Below.drew ?_ | refine Below.setCell ?_ (by first | omega | (simp; done) | (simp; omega)) _ | refine Below.alloc ?_ (by first | omega | (simp; done) | (simp; omega)) _)), (by repeat (first | exact Below.refl _ _ | assumption | refine below_drewN ?_ _ | refine Below.drew ?_ | refine Below.setCell ?_ (by first | omega | (simp; done) | (simp; omega)) _ | refine Below.alloc ?_ (by first | omega | (simp; done) | (simp; omega)) _))⟩
end Go.Proofs.YtpphnnijnnfngaaGreatDoor

/-
  Decimal digits as numbers, plainly: what natText of package num reads, in parts of nine.
-/
namespace Go.Proofs.YtpphnnijnnfngaaGreatDoor
open Go.RowKit Al Nat9

def isD (c : UInt8) : Bool := decide (48 ≤ c.toNat) && decide (c.toNat ≤ 57)
def decV (l : List UInt8) : Nat := l.foldl (fun n c => 10 * n + (c.toNat - 48)) 0
theorem decV_snoc (l : List UInt8) (c : UInt8) : decV (l ++ [c]) = 10 * decV l + (c.toNat - 48) := by simp [decV]
theorem foldl_dec (m : List UInt8) : ∀ n : Nat, m.foldl (fun n c => 10 * n + (c.toNat - 48)) n = n * 10 ^ m.length + decV m := by
  induction m with
  | nil => intro n; simp [decV]
  | cons c m ih =>
    intro n
    have h1 := ih (10 * n + (c.toNat - 48))
    have h2 := ih (10 * 0 + (c.toNat - 48))
    unfold decV
    simp only [List.foldl_cons, List.length_cons]
    rw [h1, h2, Nat.pow_succ, Nat.add_mul, Nat.add_mul]
    rw [show 10 * n * 10 ^ m.length = n * (10 ^ m.length * 10) by rw [Nat.mul_comm 10 n, Nat.mul_assoc, Nat.mul_comm 10]]
    simp
    omega
theorem decV_app (l m : List UInt8) : decV (l ++ m) = decV l * 10 ^ m.length + decV m := by
  rw [decV, List.foldl_append, foldl_dec]; rfl
theorem isD_iff {c : UInt8} : isD c = true ↔ 48 ≤ c.toNat ∧ c.toNat ≤ 57 := by simp [isD]
theorem decV_lt (l : List UInt8) (h : l.all isD = true) : decV l < 10 ^ l.length := by
  induction l with
  | nil => simp [decV]
  | cons c m ih =>
    simp only [List.all_cons, Bool.and_eq_true] at h
    have h1 := ih h.2
    have h2 := isD_iff.1 h.1
    have h3 := foldl_dec m (10 * 0 + (c.toNat - 48))
    have h4 : decV (c :: m) = (10 * 0 + (c.toNat - 48)) * 10 ^ m.length + decV m := by rw [← h3]; rfl
    rw [h4, List.length_cons, Nat.pow_succ]
    have h5 : (10 * 0 + (c.toNat - 48)) * 10 ^ m.length ≤ 9 * 10 ^ m.length := Nat.mul_le_mul_right _ (by omega)
    omega
/-- natText: behind the parts from k on. -/
structure TxI (s : List UInt8) (k : Nat) (o : List Nat) : Prop where
  le : k ≤ s.length
  ds : DG o
  dig : (s.drop k).all isD = true
  eq : val o = decV (s.drop k)
  al : k = 0 ∨ s.length = k + 9 * o.length
theorem TxI.start (s : List UInt8) : TxI s s.length [] := ⟨Nat.le_refl _, (fun d h => by cases h), by simp, by simp [val, decV], .inr (by simp)⟩
theorem TxI.step {s : List UInt8} {k : Nat} {o : List Nat} (h : TxI s k o) (hk : 0 < k) (hd : ((s.take k).drop (k - 9)).all isD = true) : TxI s (k - 9) (o ++ [decV ((s.take k).drop (k - 9))]) := by
  have hle := h.le
  have hal : s.length = k + 9 * o.length := by have := h.al; omega
  have hlen : ((s.take k).drop (k - 9)).length ≤ 9 := by simp; omega
  have hlt : decV ((s.take k).drop (k - 9)) < 1000000000 := Nat.lt_of_lt_of_le (decV_lt _ hd) (Nat.le_trans (Nat.pow_le_pow_right (by omega) hlen) (by decide))
  have hsp : s.drop (k - 9) = (s.take k).drop (k - 9) ++ s.drop k := by
    have e : s.drop (k - 9) = (s.take k ++ s.drop k).drop (k - 9) := by rw [List.take_append_drop]
    rw [e, List.drop_append_of_le_length (by simp; omega)]
  refine ⟨by omega, h.ds.snoc hlt, by rw [hsp, List.all_append, hd, h.dig]; rfl, ?_, ?_⟩
  · rw [hsp, decV_app, val_app, h.eq]
    have e1 : (s.drop k).length = 9 * o.length := by simp; omega
    have e2 : (10 : Nat) ^ (9 * o.length) = 1000000000 ^ o.length := by rw [Nat.pow_mul]
    rw [e1, e2]
    simp [val]
    rw [Nat.mul_comm]
    omega
  · rcases Nat.lt_or_ge 9 k with h9 | h9
    · exact .inr (by simp; omega)
    · exact .inl (by omega)
theorem TxI.end_ {s : List UInt8} {o : List Nat} (h : TxI s 0 o) : val o = decV s := by rw [h.eq, List.drop_zero]
theorem TxI.len {s : List UInt8} {k : Nat} {o : List Nat} (h : TxI s k o) (hk : 0 < k) : 9 * o.length + k = s.length := by
  have := h.al
  omega
end Go.Proofs.YtpphnnijnnfngaaGreatDoor
