/-
  Plain definitions: the text of an alert, its digest.
-/
import Derived.Test.YtohfofecbdfkgaaDoorPa
namespace Go.Proofs.YtohfofecbdfkgaaDoor
namespace Al

theorem nDigits_le : ∀ (k u : Nat), 0 < k → u < 10 ^ k → Lib.nDigits u ≤ k
  | 0, _, h, _ => absurd h (by omega)
  | k + 1, u, _, h => by
    rw [Lib.nDigits]
    by_cases h1 : u < 10
    · rw [dif_pos h1]; omega
    · rw [dif_neg h1]
      have hk : 0 < k := by
        rcases Nat.eq_zero_or_pos k with h0 | h0
        · subst h0; simp at h; omega
        · exact h0
      have := nDigits_le k (u / 10) hk (by rw [Nat.pow_succ] at h; omega)
      omega
theorem itoa_len {n : Int} (h0 : 0 ≤ n) (h1 : n ≤ 2147483647) : (Lib.itoa n).length ≤ 10 := by
  unfold Lib.itoa
  rw [if_neg (by omega), Lib.decDigits_length]
  exact nDigits_le 10 _ (by omega) (by simp; omega)

/-- A word and numbers, blanks between. -/
def rowL (w : List UInt8) (l : List Int) : List UInt8 := w ++ l.flatMap fun n => 32 :: Lib.itoa n
theorem rowL_nil (w : List UInt8) : rowL w [] = w := by simp [rowL]
theorem rowL_snoc (w : List UInt8) (l : List Int) (n : Int) : rowL w (l ++ [n]) = rowL w l ++ 32 :: Lib.itoa n := by
  simp [rowL, List.flatMap_append]
theorem take_snoc {l : List Int} {k : Nat} (h : k < l.length) : l.take (k + 1) = l.take k ++ [l[k]] := by
  rw [List.take_succ_eq_append_getElem h]
/-- The numbers of an alert are not less than 0, and small. -/
def Fine (l : List Int) : Prop := ∀ n ∈ l, 0 ≤ n ∧ n ≤ 2147483647
theorem rising_fine {last many : Int} (h0 : -1 ≤ last) (hm : many ≤ 2147483647) : ∀ {l : List Int}, rising last many l = true → Fine l
  | [], _ => fun n hn => by cases hn
  | c :: r, h => by
    rw [rising] at h
    simp only [Bool.and_eq_true, decide_eq_true_eq] at h
    intro n hn
    rcases List.mem_cons.1 hn with rfl | hn
    · omega
    · exact rising_fine (last := c) (by omega) hm h.2 n hn
theorem rising_length {last many : Int} : ∀ {l : List Int}, rising last many l = true → (l.length : Int) ≤ 0 ∨ (l.length : Int) ≤ many - 1 - last
  | [], _ => by simp
  | c :: r, h => by
    rw [rising] at h
    simp only [Bool.and_eq_true, decide_eq_true_eq] at h
    have := rising_length (last := c) h.2
    rw [List.length_cons]
    omega

/-- The digits, none for 0. -/
def dd (m : Nat) : List UInt8 := if m = 0 then [] else Lib.decDigits m
theorem dd_step {m : Nat} (h : 0 < m) : dd m = dd (m / 10) ++ [UInt8.ofNat (48 + m % 10)] := by
  unfold dd
  rw [if_neg (by omega), Lib.decDigits]
  by_cases h1 : m < 10
  · rw [dif_pos h1, if_pos (by omega), Nat.mod_eq_of_lt h1]; rfl
  · rw [dif_neg h1, if_neg (by omega)]
theorem dd_itoa {m : Nat} (h : 0 < m) : dd m = Lib.itoa m := by
  unfold dd Lib.itoa
  rw [if_neg (by omega), if_neg (by omega)]
  rfl

/-- The lines of an alert. -/
def headL (a : Alr) : List UInt8 := rowL ([97, 108, 101, 114, 116, 32] ++ a.ev.data.toList) [a.ver]
def timeL (a : Alr) : List UInt8 := rowL [116, 105, 109, 101] [a.tm]
def chanceL (a : Alr) : List UInt8 := rowL [99, 104, 97, 110, 99, 101] [a.n, a.of]
def gridL (a : Alr) : List UInt8 := rowL [103, 114, 105, 100] [a.grid]
def whereL (a : Alr) : List UInt8 := if a.wd then [119, 105, 116, 104, 100, 114, 97, 119, 110] else rowL [99, 101, 108, 108, 115] a.cells
def beforeL (a : Alr) : List UInt8 := rowL [98, 101, 102, 111, 114, 101] [a.before]
def endL : List UInt8 := [101, 110, 100]
def lines (a : Alr) : List (List UInt8) := [headL a, timeL a, chanceL a, gridL a, whereL a, beforeL a, endL]
/-- The text of an alert. -/
def textL (a : Alr) : List UInt8 := (lines a).flatMap fun l => l ++ [10]
theorem inB_fine {n lo hi : Int} (h : inB n lo hi = true) (h0 : 0 ≤ lo) (h1 : hi ≤ 2147483647) : 0 ≤ n ∧ n ≤ 2147483647 := by
  have := inB_true.1 h; omega
theorem fine1 {n : Int} (h : 0 ≤ n ∧ n ≤ 2147483647) : Fine [n] := fun m hm => by
  rcases List.mem_cons.1 hm with rfl | hm
  · exact h
  · cases hm
theorem fine2 {n m : Int} (h : 0 ≤ n ∧ n ≤ 2147483647) (h' : 0 ≤ m ∧ m ≤ 2147483647) : Fine [n, m] := fun k hk => by
  rcases List.mem_cons.1 hk with rfl | hk
  · exact h
  · exact fine1 h' k hk
theorem many_in {g : Int} (h : inB g 1 8 = true) : 0 ≤ manyCells g ∧ manyCells g ≤ 384 := by
  have hb := inB_true.1 h
  unfold manyCells
  have e1 := Int.mul_le_mul_of_nonneg_right (show 6 * g ≤ 48 by omega) (show 0 ≤ g by omega)
  have e2 := Int.mul_nonneg (show 0 ≤ 6 * g by omega) (show 0 ≤ g by omega)
  omega
/-- What the walks of the lines need of a valid alert. -/
structure AlGood (a : Alr) : Prop where
  ev : a.ev.size ≤ 16
  ver : 0 ≤ a.ver ∧ a.ver ≤ 2147483647
  tm : 0 ≤ a.tm ∧ a.tm ≤ 2147483647
  n : 0 ≤ a.n ∧ a.n ≤ 2147483647
  of : 0 ≤ a.of ∧ a.of ≤ 2147483647
  grid : 0 ≤ a.grid ∧ a.grid ≤ 2147483647
  before : 0 ≤ a.before ∧ a.before ≤ 2147483647
  cells : Fine a.cells
  many : a.cells.length ≤ 384
  wd : a.wd = true → a.cells = []
theorem okA_good {a : Alr} (h : okA a = true) : AlGood a := by
  obtain ⟨h1, h2, h3, h4, h5, h6, h7, h8, h9⟩ := okA_parts h
  have hm := many_in h1
  have hn := inB_true.1 h6
  refine ⟨?_, inB_fine h3 (by omega) (by omega), inB_fine h4 (by omega) (by omega), by omega, by omega, inB_fine h1 (by omega) (by omega), ?_, rising_fine (by omega) (by omega) h8, ?_, ?_⟩
  · rw [isName_size] at h2
    simp only [Bool.and_eq_true] at h2
    have := inB_true.1 h2.1
    omega
  · split at h9
    · have := of_decide_eq_true h9; omega
    · exact inB_fine h9 (by omega) (by omega)
  · have := rising_length h8; omega
  · intro hw
    rw [hw] at h7
    have : (a.cells.length : Int) = 0 := by simpa using h7
    exact List.eq_nil_of_length_eq_zero (by omega)
/-- The text up to the cells. -/
def preL (a : Alr) : List UInt8 := [97, 108, 101, 114, 116, 32] ++ a.ev.data.toList ++ [32] ++ Lib.itoa a.ver ++ [10, 116, 105, 109, 101, 32] ++ Lib.itoa a.tm ++ [10, 99, 104, 97, 110, 99, 101, 32] ++ Lib.itoa a.n ++ [32] ++ Lib.itoa a.of ++ [10, 103, 114, 105, 100, 32] ++ Lib.itoa a.grid ++ [10]
theorem textL_pre (a : Alr) : textL a = preL a ++ whereL a ++ ([10, 98, 101, 102, 111, 114, 101, 32] ++ Lib.itoa a.before ++ [10, 101, 110, 100, 10]) := by
  simp [textL, lines, headL, timeL, chanceL, gridL, beforeL, endL, preL, rowL]
theorem whereL_t {a : Alr} (h : a.wd = true) : whereL a = [119, 105, 116, 104, 100, 114, 97, 119, 110] := by unfold whereL; rw [if_pos h]
theorem whereL_f {a : Alr} (h : ¬ a.wd = true) : whereL a = rowL [99, 101, 108, 108, 115] a.cells := by unfold whereL; rw [if_neg h]
theorem rowL_len {w : List UInt8} {l : List Int} (h : Fine l) : (rowL w l).length ≤ w.length + 11 * l.length := by
  unfold rowL
  rw [List.length_append]
  have : (l.flatMap fun n => 32 :: Lib.itoa n).length ≤ 11 * l.length := by
    induction l with
    | nil => simp
    | cons n r ih =>
      have h1 := h n (by simp)
      have h2 := itoa_len h1.1 h1.2
      have h3 := ih fun m hm => h m (by simp [hm])
      rw [List.flatMap_cons, List.length_append, List.length_cons, List.length_cons]
      omega
  omega
theorem textL_len {a : Alr} (h : AlGood a) : (textL a).length ≤ 1048576 := by
  rw [textL_pre]
  have l1 := itoa_len h.ver.1 h.ver.2
  have l2 := itoa_len h.tm.1 h.tm.2
  have l3 := itoa_len h.n.1 h.n.2
  have l4 := itoa_len h.of.1 h.of.2
  have l5 := itoa_len h.grid.1 h.grid.2
  have l6 := itoa_len h.before.1 h.before.2
  have l7 := h.many
  have l8 : a.ev.data.toList.length ≤ 16 := by have := h.ev; rw [Array.length_toList]; exact this
  have l9 : (whereL a).length ≤ 9 + 11 * a.cells.length := by
    unfold whereL
    split
    · simp
    · have := rowL_len (w := [99, 101, 108, 108, 115]) h.cells
      simp at this
      omega
  unfold preL
  simp only [List.length_append, List.length_cons, List.length_nil]
  omega
/-- The digest of a text. -/
def digL (l : List UInt8) : Int := l.foldl (fun d b => (d * 31 + b.toNat + 1) % 2147483647) 7
def digA (a : Alr) : Int := digL (textL a)
theorem digL_snoc (l : List UInt8) (b : UInt8) : digL (l ++ [b]) = (digL l * 31 + b.toNat + 1) % 2147483647 := by simp [digL]
theorem digL_in (l : List UInt8) : 0 ≤ digL l ∧ digL l ≤ 2147483646 := by
  rcases List.eq_nil_or_concat l with h | ⟨r, b, h⟩
  · subst h; decide
  · rw [h, List.concat_eq_append, digL_snoc]
    have := Int.emod_nonneg (digL r * 31 + b.toNat + 1) (show (2147483647 : Int) ≠ 0 by omega)
    have := Int.emod_lt_of_pos (digL r * 31 + b.toNat + 1) (show (0 : Int) < 2147483647 by omega)
    omega
end Al
end Go.Proofs.YtohfofecbdfkgaaDoor
