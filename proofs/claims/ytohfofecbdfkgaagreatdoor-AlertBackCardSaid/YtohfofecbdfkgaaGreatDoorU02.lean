/-
  Plain definitions of the layer 'alert': alerts, names, their texts and digests. No program in sight.
-/
import Derived.Test.YtohfofecbdfkgaaGreatDoorU01
import Derived.WalkLawsBesides
namespace Go.Proofs.YtohfofecbdfkgaaGreatDoor
namespace Al

/-- An alert. -/
structure Alr where
  ev : ByteArray
  ver : Int
  tm : Int
  n : Int
  of : Int
  grid : Int
  cells : List Int
  wd : Bool
  before : Int

/-- Names. -/
def small (b : UInt8) : Bool := inB b.toNat 97 122
def digit (b : UInt8) : Bool := inB b.toNat 48 57
def nameB (b : UInt8) : Bool := small b || digit b || (b.toNat : Int) == 95
def nameFrom : Bool → List UInt8 → Bool
  | _, [] => true
  | f, b :: r => (small b || (!f && nameB b)) && nameFrom false r
def isName (l : List UInt8) : Bool := inB l.length 1 16 && nameFrom true l

/-- The cells rise from 'last', and are less than 'many'. -/
def rising (last many : Int) : List Int → Bool
  | [] => true
  | c :: r => decide (last < c) && decide (c < many) && rising c many r

def manyCells (grid : Int) : Int := 6 * grid * grid
/-- Is an alert valid? -/
def okA (a : Alr) : Bool :=
  inB a.grid 1 8 && isName a.ev.data.toList && inB a.ver 1 1000 && inB a.tm 0 1073741824 && decide (a.of ≤ 256) && inB a.n 1 a.of &&
  (a.wd == a.cells.isEmpty) && rising (-1) (manyCells a.grid) a.cells && (if a.ver = 1 then decide (a.before = 0) else inB a.before 0 2147483646)

theorem nameFrom_false (l : List UInt8) : nameFrom false l = l.all nameB := by
  induction l with
  | nil => rfl
  | cons b r ih =>
    rw [nameFrom, List.all_cons, ih]
    congr 1
    simp [nameB]
    cases small b <;> simp
theorem drop_cons {α : Type} {l : List α} {k : Nat} (h : k < l.length) : l.drop k = l[k] :: l.drop (k + 1) := List.drop_eq_getElem_cons h
/-- One byte more, at the place k. -/
theorem nameFrom_at {s : ByteArray} {k : Nat} (h : k < s.size) : nameFrom (k == 0) (s.data.toList.drop k) = ((small s[k] || (!(k == 0) && nameB s[k])) && nameFrom false (s.data.toList.drop (k + 1))) := by
  rw [drop_cons (by simpa using h), nameFrom]
  rfl
theorem nameFrom_end {s : ByteArray} (f : Bool) : nameFrom f (s.data.toList.drop s.size) = true := by
  rw [List.drop_of_length_le (by simp)]
  cases f <;> rfl
theorem isName_size (s : ByteArray) : isName s.data.toList = (inB s.size 1 16 && nameFrom true s.data.toList) := by
  unfold isName
  rw [Array.length_toList]
  rfl
theorem isName_size' (s : ByteArray) : isName s.data.toList = (inB s.size 1 16 && nameFrom (0 == 0) (s.data.toList.drop 0)) := isName_size s

theorem nameFalse_at {s : ByteArray} {k : Nat} (h : k < s.size) : nameFrom false (s.data.toList.drop k) = (nameB s[k] && nameFrom false (s.data.toList.drop (k + 1))) := by
  rw [drop_cons (by simpa using h), nameFrom]
  show ((small s[k] || (true && nameB s[k])) && nameFrom false (s.data.toList.drop (k + 1))) = (nameB s[k] && nameFrom false (s.data.toList.drop (k + 1)))
  congr 1
  unfold nameB
  cases small s[k] <;> rfl
theorem nameTrue_of {s : ByteArray} (h : 0 < s.size) : nameFrom true s.data.toList = (small s[0] && nameFrom false (s.data.toList.drop 0)) := by
  rw [nameFalse_at h]
  have := nameFrom_at h
  rw [List.drop_zero] at this
  rw [show (true : Bool) = (0 == 0) from rfl, this]
  unfold nameB
  cases small s[0] <;> simp
theorem rising_at {l : List Int} {last many : Int} {k : Nat} (h : k < l.length) : rising last many (l.drop k) = (decide (last < l[k]) && decide (l[k] < many) && rising l[k] many (l.drop (k + 1))) := by
  rw [drop_cons h, rising]
theorem rising_end (l : List Int) (last many : Int) : rising last many (l.drop l.length) = true := by
  rw [List.drop_of_length_le (Nat.le_refl _)]; rfl
theorem rising_lt {l : List Int} {last many : Int} {k : Nat} (h : k < l.length) (h1 : ¬ last < l[k]) : rising last many (l.drop k) = false := by
  rw [rising_at h, decide_eq_false h1]; rfl
theorem rising_ge {l : List Int} {last many : Int} {k : Nat} (h : k < l.length) (h1 : ¬ l[k] < many) : rising last many (l.drop k) = false := by
  rw [rising_at h, decide_eq_false h1]; simp
theorem rising_go {l : List Int} {last many : Int} {k : Nat} (h : k < l.length) (h1 : last < l[k]) (h2 : l[k] < many) : rising last many (l.drop k) = rising l[k] many (l.drop (k + 1)) := by
  rw [rising_at h, decide_eq_true h1, decide_eq_true h2]; rfl
theorem isEmpty_len (l : List Int) : l.isEmpty = ((l.length : Int) == 0) := by
  cases l with
  | nil => rfl
  | cons x r => simp; omega
/-- What is left once all but the cells and Before stand. -/
theorem okA_of {a : Alr} (hg : inB a.grid 1 8 = true) (h1 : isName a.ev.data.toList = true) (h2 : inB a.ver 1 1000 = true) (h3 : inB a.tm 0 1073741824 = true) (h4 : a.of ≤ 256) (h5 : inB a.n 1 a.of = true) (h6 : (a.wd == ((a.cells.length : Int) == 0)) = true) :
    okA a = (rising (-1) (manyCells a.grid) a.cells && (if a.ver = 1 then decide (a.before = 0) else inB a.before 0 2147483646)) := by
  unfold okA
  rw [hg, h1, h2, h3, decide_eq_true h4, h5, isEmpty_len, h6]
  simp
theorem okA_parts {a : Alr} (h : okA a = true) : inB a.grid 1 8 = true ∧ isName a.ev.data.toList = true ∧ inB a.ver 1 1000 = true ∧ inB a.tm 0 1073741824 = true ∧ a.of ≤ 256 ∧ inB a.n 1 a.of = true ∧ (a.wd == ((a.cells.length : Int) == 0)) = true ∧
    rising (-1) (manyCells a.grid) a.cells = true ∧ (if a.ver = 1 then decide (a.before = 0) else inB a.before 0 2147483646) = true := by
  unfold okA at h
  simp only [Bool.and_eq_true, decide_eq_true_eq, isEmpty_len] at h
  exact ⟨h.1.1.1.1.1.1.1.1, h.1.1.1.1.1.1.1.2, h.1.1.1.1.1.1.2, h.1.1.1.1.1.2, h.1.1.1.1.2, h.1.1.1.2, h.1.1.2, h.1.2, h.2⟩
theorem okA_not {a : Alr} (h : okA a = true → False) : okA a = false := by simpa using h
/-- What the specification asks first. -/
def pre1 (a : Alr) : Bool := isName a.ev.data.toList && inB a.ver 1 1000 && inB a.tm 0 1073741824 && inB a.n 1 a.of && decide (a.of ≤ 256) && inB a.grid 1 8
def pre2 (a : Alr) : Bool := pre1 a && inB a.before 0 2147483646 && (decide (1 < a.ver) || a.before == 0) && (((a.cells.length : Int) == 0) == a.wd)
theorem okA_pre (a : Alr) : okA a = (pre2 a && rising (-1) (manyCells a.grid) a.cells) := by
  unfold okA pre2 pre1
  rw [isEmpty_len]
  by_cases h1 : inB a.ver 1 1000 = true
  · have b1 := inB_true.1 h1
    by_cases hv : a.ver = 1
    · have h2 : decide (1 < a.ver) = false := decide_eq_false (by omega)
      rw [if_pos hv, h2, h1]
      by_cases hb : a.before = 0
      · rw [hb]
        have h3 : inB (0 : Int) 0 2147483646 = true := inB_mk (by omega)
        rw [h3]
        cases inB a.grid 1 8 <;> cases isName a.ev.data.toList <;> cases inB a.tm 0 1073741824 <;> cases decide (a.of ≤ 256) <;> cases inB a.n 1 a.of <;> cases a.wd <;> cases ((a.cells.length : Int) == 0) <;> simp
      · have h3 : (a.before == 0) = false := by simpa using hb
        rw [h3, decide_eq_false hb]
        simp
    · have h2 : decide (1 < a.ver) = true := decide_eq_true (by omega)
      rw [if_neg hv, h2, h1]
      cases inB a.grid 1 8 <;> cases isName a.ev.data.toList <;> cases inB a.tm 0 1073741824 <;> cases decide (a.of ≤ 256) <;> cases inB a.n 1 a.of <;> cases a.wd <;> cases ((a.cells.length : Int) == 0) <;> cases inB a.before 0 2147483646 <;> simp
  · have h1' : inB a.ver 1 1000 = false := by simpa using h1
    rw [h1']
    simp
theorem pre2_grid {a : Alr} (h : pre2 a = true) : inB a.grid 1 8 = true := by
  unfold pre2 pre1 at h
  simp only [Bool.and_eq_true] at h
  exact h.1.1.1.2
/-- The number before the place k. -/
def prevOf (l : List Int) (k : Nat) : Int := if k = 0 then -1 else l.getD (k - 1) 0
theorem prevOf_succ {l : List Int} {k : Nat} (h : k < l.length) : prevOf l (k + 1) = l[k] := by
  simp [prevOf, List.getD, h]
/-- What the specification asks at the place k. -/
def okAt (l : List Int) (many : Int) (k : Nat) (c : Int) : Bool := inB c 0 (many - 1) && (k == 0 || decide (prevOf l k < c))
theorem okAt_rising {l : List Int} {many : Int} {k : Nat} (h : k < l.length) (h0 : 0 < k → 0 ≤ prevOf l k) :
    (okAt l many k l[k] && rising (prevOf l (k + 1)) many (l.drop (k + 1))) = rising (prevOf l k) many (l.drop k) := by
  rw [rising_at h, prevOf_succ h]
  congr 1
  unfold okAt
  by_cases hk : k = 0
  · subst hk
    rw [show prevOf l 0 = -1 from rfl, Bool.eq_iff_iff]
    simp [inB_true]
    omega
  · have := h0 (by omega)
    rw [Bool.eq_iff_iff]
    simp [inB_true, hk]
    omega
theorem okAt_nn {l : List Int} {many : Int} {k : Nat} (h : k < l.length) (h1 : okAt l many k l[k] = true) : 0 < k + 1 → 0 ≤ prevOf l (k + 1) := by
  intro _
  rw [prevOf_succ h]
  unfold okAt at h1
  simp only [Bool.and_eq_true] at h1
  exact (inB_true.1 h1.1).1
theorem okAt_no {l : List Int} {many c : Int} {k : Nat} (h : inB c 0 (many - 1) = false) : okAt l many k c = false := by unfold okAt; rw [h]; rfl
theorem okAt_first {l : List Int} {many c : Int} {k : Nat} (h : inB c 0 (many - 1) = true) (hk : k = 0) : okAt l many k c = true := by subst hk; unfold okAt; rw [h]; rfl
theorem okAt_lt {l : List Int} {many c : Int} {k : Nat} (h : inB c 0 (many - 1) = true) (hk : prevOf l k < c) : okAt l many k c = true := by unfold okAt; rw [h, decide_eq_true hk]; simp
theorem okAt_ge {l : List Int} {many c : Int} {k : Nat} (h0 : ¬ k = 0) (hk : ¬ prevOf l k < c) : okAt l many k c = false := by unfold okAt; rw [decide_eq_false hk]; simp [h0]
theorem prevOf_pos {l : List Int} {k : Nat} (h0 : ¬ k = 0) (h : k - 1 < l.length) : prevOf l k = l[k - 1] := by
  simp [prevOf, h0, List.getD, h]
/-- An error of a check. -/
def errA (ok : Bool) (code : Int) : Int := if ok then 0 else code
end Al
end Go.Proofs.YtohfofecbdfkgaaGreatDoor

/-
  Plain definitions: the text of an alert, its digest.
-/
namespace Go.Proofs.YtohfofecbdfkgaaGreatDoor
namespace Al

theorem nDigits_le : ∀ (k u : Nat), 0 < k → u < 10 ^ k → Lib.nDigits u ≤ k
  | 0, _, h, _ => absurd h (by omega)
  | k + 1, u, _, h => by
    rw [Lib.nDigits]
    by_cases h1 : u < 10
    · rw [dif_pos h1]; omega
    · rw [dif_neg h1]
      have hk : 0 < k := by
        rcases Nat.eq_zero_or_pos k with h0 | h0
        · subst h0; simp at h; omega
        · exact h0
      have := nDigits_le k (u / 10) hk (by rw [Nat.pow_succ] at h; omega)
      omega
theorem itoa_len {n : Int} (h0 : 0 ≤ n) (h1 : n ≤ 2147483647) : (Lib.itoa n).length ≤ 10 := by
  unfold Lib.itoa
  rw [if_neg (by omega), Lib.decDigits_length]
  exact nDigits_le 10 _ (by omega) (by simp; omega)

/-- A word and numbers, blanks between. -/
def rowL (w : List UInt8) (l : List Int) : List UInt8 := w ++ l.flatMap fun n => 32 :: Lib.itoa n
theorem rowL_nil (w : List UInt8) : rowL w [] = w := by simp [rowL]
theorem rowL_snoc (w : List UInt8) (l : List Int) (n : Int) : rowL w (l ++ [n]) = rowL w l ++ 32 :: Lib.itoa n := by
  simp [rowL, List.flatMap_append]
theorem take_snoc {l : List Int} {k : Nat} (h : k < l.length) : l.take (k + 1) = l.take k ++ [l[k]] := by
  rw [List.take_succ_eq_append_getElem h]
/-- The numbers of an alert are not less than 0, and small. -/
def Fine (l : List Int) : Prop := ∀ n ∈ l, 0 ≤ n ∧ n ≤ 2147483647
theorem rising_fine {last many : Int} (h0 : -1 ≤ last) (hm : many ≤ 2147483647) : ∀ {l : List Int}, rising last many l = true → Fine l
  | [], _ => fun n hn => by cases hn
  | c :: r, h => by
    rw [rising] at h
    simp only [Bool.and_eq_true, decide_eq_true_eq] at h
    intro n hn
    rcases List.mem_cons.1 hn with rfl | hn
    · omega
    · exact rising_fine (last := c) (by omega) hm h.2 n hn
theorem rising_length {last many : Int} : ∀ {l : List Int}, rising last many l = true → (l.length : Int) ≤ 0 ∨ (l.length : Int) ≤ many - 1 - last
  | [], _ => by simp
  | c :: r, h => by
    rw [rising] at h
    simp only [Bool.and_eq_true, decide_eq_true_eq] at h
    have := rising_length (last := c) h.2
    rw [List.length_cons]
    omega

/-- The digits, none for 0. -/
def dd (m : Nat) : List UInt8 := if m = 0 then [] else Lib.decDigits m
theorem dd_step {m : Nat} (h : 0 < m) : dd m = dd (m / 10) ++ [UInt8.ofNat (48 + m % 10)] := by
  unfold dd
  rw [if_neg (by omega), Lib.decDigits]
  by_cases h1 : m < 10
  · rw [dif_pos h1, if_pos (by omega), Nat.mod_eq_of_lt h1]; rfl
  · rw [dif_neg h1, if_neg (by omega)]
theorem dd_itoa {m : Nat} (h : 0 < m) : dd m = Lib.itoa m := by
  unfold dd Lib.itoa
  rw [if_neg (by omega), if_neg (by omega)]
  rfl

/-- The lines of an alert. -/
def headL (a : Alr) : List UInt8 := rowL ([97, 108, 101, 114, 116, 32] ++ a.ev.data.toList) [a.ver]
def timeL (a : Alr) : List UInt8 := rowL [116, 105, 109, 101] [a.tm]
def chanceL (a : Alr) : List UInt8 := rowL [99, 104, 97, 110, 99, 101] [a.n, a.of]
def gridL (a : Alr) : List UInt8 := rowL [103, 114, 105, 100] [a.grid]
def whereL (a : Alr) : List UInt8 := if a.wd then [119, 105, 116, 104, 100, 114, 97, 119, 110] else rowL [99, 101, 108, 108, 115] a.cells
def beforeL (a : Alr) : List UInt8 := rowL [98, 101, 102, 111, 114, 101] [a.before]
def endL : List UInt8 := [101, 110, 100]
def lines (a : Alr) : List (List UInt8) := [headL a, timeL a, chanceL a, gridL a, whereL a, beforeL a, endL]
/-- The text of an alert. -/
def textL (a : Alr) : List UInt8 := (lines a).flatMap fun l => l ++ [10]
theorem inB_fine {n lo hi : Int} (h : inB n lo hi = true) (h0 : 0 ≤ lo) (h1 : hi ≤ 2147483647) : 0 ≤ n ∧ n ≤ 2147483647 := by
  have := inB_true.1 h; omega
theorem fine1 {n : Int} (h : 0 ≤ n ∧ n ≤ 2147483647) : Fine [n] := fun m hm => by
  rcases List.mem_cons.1 hm with rfl | hm
  · exact h
  · cases hm
theorem fine2 {n m : Int} (h : 0 ≤ n ∧ n ≤ 2147483647) (h' : 0 ≤ m ∧ m ≤ 2147483647) : Fine [n, m] := fun k hk => by
  rcases List.mem_cons.1 hk with rfl | hk
  · exact h
  · exact fine1 h' k hk
theorem many_in {g : Int} (h : inB g 1 8 = true) : 0 ≤ manyCells g ∧ manyCells g ≤ 384 := by
  have hb := inB_true.1 h
  unfold manyCells
  have e1 := Int.mul_le_mul_of_nonneg_right (show 6 * g ≤ 48 by omega) (show 0 ≤ g by omega)
  have e2 := Int.mul_nonneg (show 0 ≤ 6 * g by omega) (show 0 ≤ g by omega)
  omega
/-- What the walks of the lines need of a valid alert. -/
structure AlGood (a : Alr) : Prop where
  ev : a.ev.size ≤ 16
  ver : 0 ≤ a.ver ∧ a.ver ≤ 2147483647
  tm : 0 ≤ a.tm ∧ a.tm ≤ 2147483647
  n : 0 ≤ a.n ∧ a.n ≤ 2147483647
  of : 0 ≤ a.of ∧ a.of ≤ 2147483647
  grid : 0 ≤ a.grid ∧ a.grid ≤ 2147483647
  before : 0 ≤ a.before ∧ a.before ≤ 2147483647
  cells : Fine a.cells
  many : a.cells.length ≤ 384
  wd : a.wd = true → a.cells = []
theorem okA_good {a : Alr} (h : okA a = true) : AlGood a := by
  obtain ⟨h1, h2, h3, h4, h5, h6, h7, h8, h9⟩ := okA_parts h
  have hm := many_in h1
  have hn := inB_true.1 h6
  refine ⟨?_, inB_fine h3 (by omega) (by omega), inB_fine h4 (by omega) (by omega), by omega, by omega, inB_fine h1 (by omega) (by omega), ?_, rising_fine (by omega) (by omega) h8, ?_, ?_⟩
  · rw [isName_size] at h2
    simp only [Bool.and_eq_true] at h2
    have := inB_true.1 h2.1
    omega
  · split at h9
    · have := of_decide_eq_true h9; omega
    · exact inB_fine h9 (by omega) (by omega)
  · have := rising_length h8; omega
  · intro hw
    rw [hw] at h7
    have : (a.cells.length : Int) = 0 := by simpa using h7
    exact List.eq_nil_of_length_eq_zero (by omega)
/-- The text up to the cells. -/
def preL (a : Alr) : List UInt8 := [97, 108, 101, 114, 116, 32] ++ a.ev.data.toList ++ [32] ++ Lib.itoa a.ver ++ [10, 116, 105, 109, 101, 32] ++ Lib.itoa a.tm ++ [10, 99, 104, 97, 110, 99, 101, 32] ++ Lib.itoa a.n ++ [32] ++ Lib.itoa a.of ++ [10, 103, 114, 105, 100, 32] ++ Lib.itoa a.grid ++ [10]
theorem textL_pre (a : Alr) : textL a = preL a ++ whereL a ++ ([10, 98, 101, 102, 111, 114, 101, 32] ++ Lib.itoa a.before ++ [10, 101, 110, 100, 10]) := by
  simp [textL, lines, headL, timeL, chanceL, gridL, beforeL, endL, preL, rowL]
theorem whereL_t {a : Alr} (h : a.wd = true) : whereL a = [119, 105, 116, 104, 100, 114, 97, 119, 110] := by unfold whereL; rw [if_pos h]
theorem whereL_f {a : Alr} (h : ¬ a.wd = true) : whereL a = rowL [99, 101, 108, 108, 115] a.cells := by unfold whereL; rw [if_neg h]
theorem rowL_len {w : List UInt8} {l : List Int} (h : Fine l) : (rowL w l).length ≤ w.length + 11 * l.length := by
  unfold rowL
  rw [List.length_append]
  have : (l.flatMap fun n => 32 :: Lib.itoa n).length ≤ 11 * l.length := by
    induction l with
    | nil => simp
    | cons n r ih =>
      have h1 := h n (by simp)
      have h2 := itoa_len h1.1 h1.2
      have h3 := ih fun m hm => h m (by simp [hm])
      rw [List.flatMap_cons, List.length_append, List.length_cons, List.length_cons]
      omega
  omega
theorem textL_len {a : Alr} (h : AlGood a) : (textL a).length ≤ 1048576 := by
  rw [textL_pre]
  have l1 := itoa_len h.ver.1 h.ver.2
  have l2 := itoa_len h.tm.1 h.tm.2
  have l3 := itoa_len h.n.1 h.n.2
  have l4 := itoa_len h.of.1 h.of.2
  have l5 := itoa_len h.grid.1 h.grid.2
  have l6 := itoa_len h.before.1 h.before.2
  have l7 := h.many
  have l8 : a.ev.data.toList.length ≤ 16 := by have := h.ev; rw [Array.length_toList]; exact this
  have l9 : (whereL a).length ≤ 9 + 11 * a.cells.length := by
    unfold whereL
    split
    · simp
    · have := rowL_len (w := [99, 101, 108, 108, 115]) h.cells
      simp at this
      omega
  unfold preL
  simp only [List.length_append, List.length_cons, List.length_nil]
  omega
/-- The digest of a text. -/
def digL (l : List UInt8) : Int := l.foldl (fun d b => (d * 31 + b.toNat + 1) % 2147483647) 7
def digA (a : Alr) : Int := digL (textL a)
theorem digL_snoc (l : List UInt8) (b : UInt8) : digL (l ++ [b]) = (digL l * 31 + b.toNat + 1) % 2147483647 := by simp [digL]
theorem digL_in (l : List UInt8) : 0 ≤ digL l ∧ digL l ≤ 2147483646 := by
  rcases List.eq_nil_or_concat l with h | ⟨r, b, h⟩
  · subst h; decide
  · rw [h, List.concat_eq_append, digL_snoc]
    have := Int.emod_nonneg (digL r * 31 + b.toNat + 1) (show (2147483647 : Int) ≠ 0 by omega)
    have := Int.emod_lt_of_pos (digL r * 31 + b.toNat + 1) (show (0 : Int) < 2147483647 by omega)
    omega
end Al
end Go.Proofs.YtohfofecbdfkgaaGreatDoor

/-
  The walks of 'row' and 'Decimal'.
-/
namespace Go.Proofs.YtohfofecbdfkgaaGreatDoor
open Go.RowKit Al

/-- The library's table of powers of ten lies in the world. -/
def Tab (w : World) : Prop := Lib.TabIs Tryz.prog w "internal/strconv.uint64pow10" .u64 Lib.pow10Tab
theorem gTab : Tryz.prog.globalNamed "internal/strconv.uint64pow10" = some 5 := by kernel_rfl
theorem Tab.below {w w' : World} {B : Nat} (h : Tab w) (hB : 5 < B) (hb : Below B w w') : Tab w' := by
  unfold Tab Lib.TabIs at *
  exact var?_below hb gTab hB h

theorem grow_below (w : World) (k : Nat) (os : Array Obj) : Below w.heap.size w (Go.Sort.grow (w.drewN k) os) := by
  refine (below_drewN (Below.refl _ _) k).trans ⟨rfl, rfl, rfl, ?_, fun i hi => ?_⟩
  · show (w.drewN k).heap.size ≤ ((w.drewN k).heap ++ os).size
    simp
  · show ((w.drewN k).heap ++ os)[i]? = _
    have e : (w.drewN k).heap = w.heap := World.heap_drewN w k
    rw [e, Array.getElem?_append_left hi]
theorem ret_str {a b : ByteArray} (h : a = b) : Ending.returned (.string a) = .returned (.string b) := by rw [h]
theorem bytes_eq {t : ByteArray} {l : List UInt8} (h : t.data.toList = l) : t = ⟨l.toArray⟩ := by
  rw [← h]

theorem str_add (s t : ByteArray) : (s ++ t).data.toList = s.data.toList ++ t.data.toList := by simp [ByteArray.data_append]

theorem enc_lt : ∀ d : Nat, d < 10 → Utf8.encode ((48 + d : Nat) : Int) = ⟨#[UInt8.ofNat (48 + d)]⟩
  | 0, _ => rfl | 1, _ => rfl | 2, _ => rfl | 3, _ => rfl | 4, _ => rfl | 5, _ => rfl | 6, _ => rfl | 7, _ => rfl | 8, _ => rfl | 9, _ => rfl
  | d + 10, h => absurd h (by omega)
theorem enc_digit (m : Nat) : Utf8.encode (48 + (m : Int) % 10) = ⟨#[UInt8.ofNat (48 + m % 10)]⟩ := by
  rw [show 48 + (m : Int) % 10 = ((48 + m % 10 : Nat) : Int) from by omega]
  exact enc_lt _ (by omega)
theorem enc_size (m : Nat) : (Utf8.encode (48 + (m : Int) % 10)).size ≤ 4 := by
  rw [enc_digit]
  show 1 ≤ 4
  omega

theorem dec_next {m N : Nat} {t : ByteArray} (hp : 0 < m) (ht : Hid (dd m ++ t.data.toList = dd N)) : Hid (dd (m / 10) ++ (Utf8.encode (48 + (m : Int) % 10) ++ t).data.toList = dd N) := by
  show _ = _
  rw [← ht.out, dd_step hp, str_add, enc_digit]
  simp

def DecRel (N : Nat) (a s : Value) : Prop := ∃ (m : Nat) (t : ByteArray), a = .int .i64 m ∧ s = .string t ∧ m ≤ 2147483647 ∧ Hid (dd m ++ t.data.toList = dd N)
set_option maxRecDepth 100000 in
set_option maxHeartbeats 1000000 in
theorem decimal_ (n : Int) (h0 : 0 ≤ n) (h1 : n ≤ 2147483647) (w : World) :
    Calls Tryz.prog 119 #[.int .i64 n] w fun e w' => e = .returned (.string ⟨(Lib.itoa n).toArray⟩) ∧ w = w' := by
  obtain ⟨N, rfl⟩ := Int.eq_ofNat_of_zero_le h0
  by_cases hz : N = 0
  · subst hz
    have HI : Hid ((⟨(Lib.itoa ((0 : Nat) : Int)).toArray⟩ : ByteArray) = ⟨#[48]⟩) := by
      show _ = _
      rw [show Lib.itoa ((0 : Nat) : Int) = [48] from by simp [Lib.itoa, Lib.decDigits_one]]
    go_enter Tryz.func119, Tryz.ntmps119
    go_wp2
    go_ret
    exact ⟨ret_str HI.out.symm, rfl⟩
  · have hz' : ((N : Int) == 0) = false := by simpa using hz
    have hn' : ¬ (N : Int) < 0 := by omega
    have HI := Lib.hid (dd_itoa (m := N) (by omega))
    have HL := Lib.hid (itoa_len h0 h1)
    clear hz
    go_enter Tryz.func119, Tryz.ntmps119
    go_wp2
    go_loop [0, 3] (fun a s => DecRel N a s) (fun a _ => (intOf a).toNat)
    case atStart => exact ⟨N, _, rfl, rfl, by omega, by show _ = _; simp⟩
    case round =>
      obtain ⟨m, t, rfl, rfl, hm, ht⟩ := hrel
      have hsz : t.size ≤ 10 := by
        have e := congrArg List.length ht.out
        rw [HI.out, List.length_append] at e
        have := HL.out
        have e2 : t.data.toList.length = t.size := by rw [Array.length_toList]; rfl
        omega
      by_cases hp : 0 < m
      · have hp' : ((m : Int) != 0) = true := by simp; omega
        have HX := dec_next hp ht
        have HX' := Lib.hid HX
        clear HX
        go_wp2_with fail
        all_goals first
          | (exfalso; have := enc_size m; omega)
          | (go_round
             case rel => (first | exact ⟨m / 10, _, by go_num, rfl, by omega, HX'.out⟩ | ((repeat apply Exists.intro); refine ⟨⟨m / 10, _, by go_num, rfl, by omega, HX'.out⟩, ?_⟩; (repeat refine ⟨rfl, ?_⟩); exact rfl))
             case measure => simp [intOf]; omega)
      · obtain rfl : m = 0 := by omega
        have HF : Hid (t.data.toList = Lib.itoa N) := by
          show _ = _
          rw [← HI.out, ← ht.out]; rfl
        go_wp2
        go_ret
        exact ⟨ret_str (bytes_eq HF.out), rfl⟩

def RowRel (word : ByteArray) (l : List Int) (s i : Value) : Prop := ∃ (k : Nat) (t : ByteArray), k ≤ l.length ∧ s = .string t ∧ i = .int .i64 k ∧ t.size ≤ word.size + 11 * k ∧ Hid (t.data.toList = rowL word.data.toList (l.take k))
set_option maxRecDepth 100000 in
set_option maxHeartbeats 1000000 in
theorem row_ (word : ByteArray) (l : List Int) (A : Option Addr) (c B : Nat) (w : World) (hw : word.size ≤ 1048576) (hl : l.length ≤ 1048576) (hf : Fine l) (h : Sl w B 1 A l.length c (ints l)) (hB : B ≤ w.heap.size) (ht : Tab w) (h3 : 8 ≤ w.heap.size) :
    Calls Tryz.prog 138 #[.string word, .slice A l.length c] w fun e w' => ∃ t : ByteArray, e = .returned (.string t) ∧ Hid (t.data.toList = rowL word.data.toList l) ∧ t.size ≤ word.size + 11 * l.length ∧ Below w.heap.size w w' := by
  have HF := Lib.hid hf
  clear hf
  go_enter Tryz.func138, Tryz.ntmps138
  go_wp2
  go_loopw [0, 9] (fun s i wr => RowRel word l s i ∧ Below w.heap.size w wr) (fun _ i _ => l.length - (intOf i).toNat)
  case atStart => exact ⟨⟨0, word, Nat.zero_le _, rfl, rfl, by omega, by show _ = _; rw [List.take_zero, rowL_nil]⟩, Below.refl _ _⟩
  case round =>
    obtain ⟨⟨k, t, hk, rfl, rfl, hsz, hp⟩, hb⟩ := hrel
    by_cases hlt : k < l.length
    · obtain ⟨b, off, rfl, hbb, hc⟩ := h.int_at hlt hlt
      have hc' : wr.cell? ⟨b, off + k, none⟩ = some (.int .i64 l[k]) := by rw [(bcell hb).1 b (off + k) (by omega)]; exact hc
      have hr := HF.out l[k] (List.getElem_mem hlt)
      have hlen := itoa_len hr.1 hr.2
      have HT := Lib.hid (ht.below (by omega) hb)
      have HS : Hid ((t ++ ((⟨#[32]⟩ : ByteArray) ++ ⟨(Lib.itoa l[k]).toArray⟩)).data.toList = rowL word.data.toList (l.take (k + 1))) := by
        show _ = _
        rw [take_snoc hlt, rowL_snoc, ← hp.out, str_add, str_add]
        simp
      have hsz' : (t ++ ((⟨#[32]⟩ : ByteArray) ++ ⟨(Lib.itoa l[k]).toArray⟩)).size ≤ word.size + 11 * (k + 1) := by
        rw [ByteArray.size_append, ByteArray.size_append]
        show t.size + (1 + (Lib.itoa l[k]).toArray.size) ≤ _
        rw [List.size_toArray]
        omega
      go_wp2_with (go_at_call 173; refine (Tryz.strconv_Itoa _ (by omega) (by omega) _ HT.out).mono ?_; rintro e w' ⟨rfl, q, os, rfl⟩)
      go_roundw
      case rel => (first | exact ⟨⟨k + 1, _, by omega, rfl, by go_num, hsz', HS⟩, hb.trans ((grow_below _ _ _).mono hb.size)⟩ | ((repeat apply Exists.intro); refine ⟨⟨⟨k + 1, _, by omega, rfl, by go_num, hsz', HS⟩, hb.trans ((grow_below _ _ _).mono hb.size)⟩, ?_⟩; (repeat refine ⟨rfl, ?_⟩); exact rfl))
      case measure => simp [intOf]; omega
    · obtain rfl : k = l.length := by omega
      go_wp2
      go_ret
      exact ⟨t, rfl, by show _ = _; rw [hp.out, List.take_of_length_le (Nat.le_refl _)], hsz, hb⟩
end Go.Proofs.YtohfofecbdfkgaaGreatDoor

/-
  The walks of the two functions that ask whether a string is a name.
-/
namespace Go.Proofs.YtohfofecbdfkgaaGreatDoor
open Go.RowKit Al

theorem small_t {b : UInt8} (h : small b = true) : (97 : Int) ≤ (b.toNat : Int) ∧ (b.toNat : Int) ≤ 122 := inB_true.1 h
theorem small_f {b : UInt8} (h : small b = false) : (b.toNat : Int) < 97 ∨ 122 < (b.toNat : Int) := inB_false.1 h
theorem digit_t {b : UInt8} (h : digit b = true) : (48 : Int) ≤ (b.toNat : Int) ∧ (b.toNat : Int) ≤ 57 := inB_true.1 h
theorem digit_f {b : UInt8} (h : digit b = false) : (b.toNat : Int) < 48 ∨ 57 < (b.toNat : Int) := inB_false.1 h

/-- What a byte of a name decides, in one word: small; the place is the first; '_'; a digit. -/
def byteOk (k : Nat) (b : UInt8) : Bool := small b || (!(k == 0) && nameB b)

theorem byteOk_first {k : Nat} {b : UInt8} (h1 : small b = false) (h2 : k = 0) : byteOk k b = false := by
  subst h2
  unfold byteOk
  rw [h1]
  rfl

set_option maxHeartbeats 1000000 in
theorem isName_ (s : ByteArray) (w : World) (hs : s.size ≤ maxLen) :
    Calls Tryz.prog 109 #[.string s] w fun e w' => e = .returned (.bool (isName s.data.toList)) ∧ w = w' := by
  unfold maxLen at hs
  go_enter Tryz.func109, Tryz.ntmps109
  go_wp2
  go_loop [8] (fun i => ∃ k : Nat, k ≤ s.size ∧ i = .int .i64 k ∧ Hid (nameFrom (k == 0) (s.data.toList.drop k) = nameFrom true s.data.toList)) (fun i => s.size - (intOf i).toNat)
  case atStart => exact ⟨0, Nat.zero_le _, rfl, rfl⟩
  case round =>
    obtain ⟨k, hk, rfl, hp⟩ := hrel
    by_cases hlt : k < s.size
    · have HA := Lib.hid (nameFrom_at hlt)
      have hnext : byteOk k s[k] = true → Hid (nameFrom (k + 1 == 0) (s.data.toList.drop (k + 1)) = nameFrom true s.data.toList) := by
        intro hb
        show _ = _
        rw [← hp.out, HA.out]
        unfold byteOk at hb
        rw [hb]
        rfl
      have hstop : byteOk k s[k] = false → isName s.data.toList = false := by
        intro hb
        rw [isName_size, ← hp.out, HA.out]
        unfold byteOk at hb
        rw [hb]
        simp
      have HN := Lib.hid hnext
      have HS := Lib.hid hstop
      clear hnext hstop
      by_cases h1 : small s[k] = true
      · have b1 := small_t h1
        have hb := Lib.hid (show byteOk k s[k] = true by unfold byteOk; rw [h1]; rfl)
        clear h1
        go_wp2
        all_goals
          go_round
          case rel => exact ⟨k + 1, by omega, by go_num, HN.out hb.out⟩
          case measure => simp [intOf]; omega
      · have h1' : small s[k] = false := by simpa using h1
        have b1 := small_f h1'
        by_cases h2 : k = 0
        · have hb := Lib.hid (byteOk_first h1' h2)
          have h2' : ((k : Int) == 0) = true := by rw [h2]; rfl
          clear h1 h1' h2
          rcases b1 with b1 | b1
          all_goals
            try have bd2 : decide ((s[k].toNat : Int) ≤ 122) = false := decide_eq_false (by omega)
            go_wp2
            all_goals (go_ret; exact ⟨ret_bool (HS.out hb.out).symm, rfl⟩)
        · have h2' : ((k : Int) == 0) = false := by simpa using h2
          by_cases h3 : (s[k].toNat : Int) = 95
          · have h3' : ((s[k].toNat : Int) != 95) = false := by simp [h3]
            have hb := Lib.hid (show byteOk k s[k] = true by unfold byteOk nameB; simp [h1', h2, h3])
            clear h1 h1' h2 h3
            rcases b1 with b1 | b1
            all_goals
              go_wp2
              all_goals
                go_round
                case rel => exact ⟨k + 1, by omega, by go_num, HN.out hb.out⟩
                case measure => simp [intOf]; omega
          · have h3' : ((s[k].toNat : Int) != 95) = true := by simp [h3]
            by_cases h4 : digit s[k] = true
            · have b2 := digit_t h4
              have hb := Lib.hid (show byteOk k s[k] = true by unfold byteOk nameB; simp [h1', h2, h4])
              clear h1 h1' h2 h3 h4
              rcases b1 with b1 | b1
              all_goals
                go_wp2
                all_goals
                  go_round
                  case rel => exact ⟨k + 1, by omega, by go_num, HN.out hb.out⟩
                  case measure => simp [intOf]; omega
            · have h4' : digit s[k] = false := by simpa using h4
              have b2 := digit_f h4'
              have hb := Lib.hid (show byteOk k s[k] = false by unfold byteOk nameB; simp [h1', h2, h3, h4'])
              clear h1 h1' h2 h3 h4 h4'
              rcases b1 with b1 | b1 <;> rcases b2 with b2 | b2
              all_goals first
                | (exfalso; omega)
                | (try have bd2 : decide ((s[k].toNat : Int) ≤ 122) = false := decide_eq_false (by omega)
                   go_wp2
                   all_goals (go_ret; exact ⟨ret_bool (HS.out hb.out).symm, rfl⟩))
    · obtain rfl : k = s.size := by omega
      have HE := Lib.hid (nameFrom_end (s := s) (s.size == 0))
      have HF : Hid (isName s.data.toList = inB s.size 1 16) := by
        show _ = _
        rw [isName_size, ← hp.out, HE.out, Bool.and_true]
      go_wp2
      all_goals (go_ret; exact ⟨ret_bool (by rw [HF.out, inB_eq]; simp; try omega), rfl⟩)

set_option maxHeartbeats 1000000 in
theorem rIsName_ (s : ByteArray) (w : World) (hs : s.size ≤ maxLen) :
    Calls Tryz.prog 75 #[.string s] w fun e w' => e = .returned (.bool (isName s.data.toList)) ∧ w = w' := by
  unfold maxLen at hs
  by_cases hz : inB s.size 1 16 = true
  · have bz := inB_true.1 hz
    have h0 : 0 < s.size := by omega
    have HZ := Lib.hid (isName_size s)
    have HT := Lib.hid (nameTrue_of h0)
    have HW := Lib.hid hz
    clear hz
    by_cases h1 : small s[0] = true
    · have b1 := small_t h1
      have HI : Hid (isName s.data.toList = nameFrom false (s.data.toList.drop 0)) := by
        show _ = _
        rw [HZ.out, HW.out, HT.out, h1]
        rfl
      clear h1
      go_enter Tryz.func75, Tryz.ntmps75
      go_wp2
      go_loop [3] (fun i => ∃ k : Nat, k ≤ s.size ∧ i = .int .i64 k ∧ Hid (nameFrom false (s.data.toList.drop k) = isName s.data.toList)) (fun i => s.size - (intOf i).toNat)
      case atStart => exact ⟨0, Nat.zero_le _, rfl, HI.out.symm⟩
      case round =>
        clear b1
        obtain ⟨k, hk, rfl, hp⟩ := hrel
        by_cases hlt : k < s.size
        · have HA := Lib.hid (nameFalse_at hlt)
          have hnext : nameB s[k] = true → Hid (nameFrom false (s.data.toList.drop (k + 1)) = isName s.data.toList) := by
            intro hb
            show _ = _
            rw [← hp.out, HA.out, hb]
            rfl
          have hstop : nameB s[k] = false → isName s.data.toList = false := by
            intro hb
            rw [← hp.out, HA.out, hb]
            rfl
          have HN := Lib.hid hnext
          have HS := Lib.hid hstop
          clear hnext hstop
          by_cases h2 : small s[k] = true
          · have b2 := small_t h2
            have hb := Lib.hid (show nameB s[k] = true by unfold nameB; simp [h2])
            clear h2
            go_wp2
            all_goals
              go_round
              case rel => exact ⟨k + 1, by omega, by go_num, HN.out hb.out⟩
              case measure => simp [intOf]; omega
          · have h2' : small s[k] = false := by simpa using h2
            have b2 := small_f h2'
            by_cases h4 : digit s[k] = true
            · have b4 := digit_t h4
              have hb := Lib.hid (show nameB s[k] = true by unfold nameB; simp [h4])
              clear h2 h2' h4
              rcases b2 with b2 | b2
              all_goals
                go_wp2
                all_goals
                  go_round
                  case rel => exact ⟨k + 1, by omega, by go_num, HN.out hb.out⟩
                  case measure => simp [intOf]; omega
            · have h4' : digit s[k] = false := by simpa using h4
              have b4 := digit_f h4'
              by_cases h3 : (s[k].toNat : Int) = 95
              · have h3' : ((s[k].toNat : Int) != 95) = false := by simp [h3]
                have hb := Lib.hid (show nameB s[k] = true by unfold nameB; simp [h3])
                clear h2 h2' h3 h4 h4'
                rcases b2 with b2 | b2 <;> rcases b4 with b4 | b4
                all_goals first
                  | (exfalso; omega)
                  | (go_wp2
                     all_goals
                       go_round
                       case rel => exact ⟨k + 1, by omega, by go_num, HN.out hb.out⟩
                       case measure => simp [intOf]; omega)
              · have h3' : ((s[k].toNat : Int) != 95) = true := by simp [h3]
                have hb := Lib.hid (show nameB s[k] = false by unfold nameB; simp [h2', h4', h3])
                clear h2 h2' h3 h4 h4'
                rcases b2 with b2 | b2 <;> rcases b4 with b4 | b4
                all_goals first
                  | (exfalso; omega)
                  | (go_wp2
                     all_goals (go_ret; exact ⟨ret_bool (HS.out hb.out).symm, rfl⟩))
        · obtain rfl : k = s.size := by omega
          have HE := Lib.hid (nameFrom_end (s := s) false)
          go_wp2
          all_goals (go_ret; exact ⟨ret_bool (by rw [← hp.out, HE.out]), rfl⟩)
    · have h1' : small s[0] = false := by simpa using h1
      have b1 := small_f h1'
      have HI : Hid (isName s.data.toList = false) := by
        show _ = _
        rw [HZ.out, HT.out, h1']
        simp
      clear h1 h1'
      rcases b1 with b1 | b1
      all_goals
        go_enter Tryz.func75, Tryz.ntmps75
        go_wp2
        go_ret
        exact ⟨ret_bool HI.out.symm, rfl⟩
  · have hz' : inB s.size 1 16 = false := by simpa using hz
    have bz := inB_false.1 hz'
    have HI : Hid (isName s.data.toList = false) := by
      show _ = _
      rw [isName_size, hz']
      rfl
    clear hz hz'
    rcases bz with bz | bz
    all_goals
      go_enter Tryz.func75, Tryz.ntmps75
      go_wp2
      go_ret
      exact ⟨ret_bool HI.out.symm, rfl⟩
end Go.Proofs.YtohfofecbdfkgaaGreatDoor
