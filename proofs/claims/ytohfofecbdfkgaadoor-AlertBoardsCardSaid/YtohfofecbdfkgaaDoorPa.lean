/-
  Plain definitions of the layer 'alert': alerts, names, their texts and digests. No program in sight.
-/
import Derived.Test.YtohfofecbdfkgaaDoorPl
namespace Go.Proofs.YtohfofecbdfkgaaDoor
namespace Al

/-- An alert. -/
structure Alr where
  ev : ByteArray
  ver : Int
  tm : Int
  n : Int
  of : Int
  grid : Int
  cells : List Int
  wd : Bool
  before : Int

/-- Names. -/
def small (b : UInt8) : Bool := inB b.toNat 97 122
def digit (b : UInt8) : Bool := inB b.toNat 48 57
def nameB (b : UInt8) : Bool := small b || digit b || (b.toNat : Int) == 95
def nameFrom : Bool → List UInt8 → Bool
  | _, [] => true
  | f, b :: r => (small b || (!f && nameB b)) && nameFrom false r
def isName (l : List UInt8) : Bool := inB l.length 1 16 && nameFrom true l

/-- The cells rise from 'last', and are less than 'many'. -/
def rising (last many : Int) : List Int → Bool
  | [] => true
  | c :: r => decide (last < c) && decide (c < many) && rising c many r

def manyCells (grid : Int) : Int := 6 * grid * grid
/-- Is an alert valid? -/
def okA (a : Alr) : Bool :=
  inB a.grid 1 8 && isName a.ev.data.toList && inB a.ver 1 1000 && inB a.tm 0 1073741824 && decide (a.of ≤ 256) && inB a.n 1 a.of &&
  (a.wd == a.cells.isEmpty) && rising (-1) (manyCells a.grid) a.cells && (if a.ver = 1 then decide (a.before = 0) else inB a.before 0 2147483646)

theorem nameFrom_false (l : List UInt8) : nameFrom false l = l.all nameB := by
  induction l with
  | nil => rfl
  | cons b r ih =>
    rw [nameFrom, List.all_cons, ih]
    congr 1
    simp [nameB]
    cases small b <;> simp
theorem drop_cons {α : Type} {l : List α} {k : Nat} (h : k < l.length) : l.drop k = l[k] :: l.drop (k + 1) := List.drop_eq_getElem_cons h
/-- One byte more, at the place k. -/
theorem nameFrom_at {s : ByteArray} {k : Nat} (h : k < s.size) : nameFrom (k == 0) (s.data.toList.drop k) = ((small s[k] || (!(k == 0) && nameB s[k])) && nameFrom false (s.data.toList.drop (k + 1))) := by
  rw [drop_cons (by simpa using h), nameFrom]
  rfl
theorem nameFrom_end {s : ByteArray} (f : Bool) : nameFrom f (s.data.toList.drop s.size) = true := by
  rw [List.drop_of_length_le (by simp)]
  cases f <;> rfl
theorem isName_size (s : ByteArray) : isName s.data.toList = (inB s.size 1 16 && nameFrom true s.data.toList) := by
  unfold isName
  rw [Array.length_toList]
  rfl
theorem isName_size' (s : ByteArray) : isName s.data.toList = (inB s.size 1 16 && nameFrom (0 == 0) (s.data.toList.drop 0)) := isName_size s

theorem nameFalse_at {s : ByteArray} {k : Nat} (h : k < s.size) : nameFrom false (s.data.toList.drop k) = (nameB s[k] && nameFrom false (s.data.toList.drop (k + 1))) := by
  rw [drop_cons (by simpa using h), nameFrom]
  show ((small s[k] || (true && nameB s[k])) && nameFrom false (s.data.toList.drop (k + 1))) = (nameB s[k] && nameFrom false (s.data.toList.drop (k + 1)))
  congr 1
  unfold nameB
  cases small s[k] <;> rfl
theorem nameTrue_of {s : ByteArray} (h : 0 < s.size) : nameFrom true s.data.toList = (small s[0] && nameFrom false (s.data.toList.drop 0)) := by
  rw [nameFalse_at h]
  have := nameFrom_at h
  rw [List.drop_zero] at this
  rw [show (true : Bool) = (0 == 0) from rfl, this]
  unfold nameB
  cases small s[0] <;> simp
theorem rising_at {l : List Int} {last many : Int} {k : Nat} (h : k < l.length) : rising last many (l.drop k) = (decide (last < l[k]) && decide (l[k] < many) && rising l[k] many (l.drop (k + 1))) := by
  rw [drop_cons h, rising]
theorem rising_end (l : List Int) (last many : Int) : rising last many (l.drop l.length) = true := by
  rw [List.drop_of_length_le (Nat.le_refl _)]; rfl
theorem rising_lt {l : List Int} {last many : Int} {k : Nat} (h : k < l.length) (h1 : ¬ last < l[k]) : rising last many (l.drop k) = false := by
  rw [rising_at h, decide_eq_false h1]; rfl
theorem rising_ge {l : List Int} {last many : Int} {k : Nat} (h : k < l.length) (h1 : ¬ l[k] < many) : rising last many (l.drop k) = false := by
  rw [rising_at h, decide_eq_false h1]; simp
theorem rising_go {l : List Int} {last many : Int} {k : Nat} (h : k < l.length) (h1 : last < l[k]) (h2 : l[k] < many) : rising last many (l.drop k) = rising l[k] many (l.drop (k + 1)) := by
  rw [rising_at h, decide_eq_true h1, decide_eq_true h2]; rfl
theorem isEmpty_len (l : List Int) : l.isEmpty = ((l.length : Int) == 0) := by
  cases l with
  | nil => rfl
  | cons x r => simp; omega
/-- What is left once all but the cells and Before stand. -/
theorem okA_of {a : Alr} (hg : inB a.grid 1 8 = true) (h1 : isName a.ev.data.toList = true) (h2 : inB a.ver 1 1000 = true) (h3 : inB a.tm 0 1073741824 = true) (h4 : a.of ≤ 256) (h5 : inB a.n 1 a.of = true) (h6 : (a.wd == ((a.cells.length : Int) == 0)) = true) :
    okA a = (rising (-1) (manyCells a.grid) a.cells && (if a.ver = 1 then decide (a.before = 0) else inB a.before 0 2147483646)) := by
  unfold okA
  rw [hg, h1, h2, h3, decide_eq_true h4, h5, isEmpty_len, h6]
  simp
theorem okA_parts {a : Alr} (h : okA a = true) : inB a.grid 1 8 = true ∧ isName a.ev.data.toList = true ∧ inB a.ver 1 1000 = true ∧ inB a.tm 0 1073741824 = true ∧ a.of ≤ 256 ∧ inB a.n 1 a.of = true ∧ (a.wd == ((a.cells.length : Int) == 0)) = true ∧
    rising (-1) (manyCells a.grid) a.cells = true ∧ (if a.ver = 1 then decide (a.before = 0) else inB a.before 0 2147483646) = true := by
  unfold okA at h
  simp only [Bool.and_eq_true, decide_eq_true_eq, isEmpty_len] at h
  exact ⟨h.1.1.1.1.1.1.1.1, h.1.1.1.1.1.1.1.2, h.1.1.1.1.1.1.2, h.1.1.1.1.1.2, h.1.1.1.1.2, h.1.1.1.2, h.1.1.2, h.1.2, h.2⟩
theorem okA_not {a : Alr} (h : okA a = true → False) : okA a = false := by simpa using h
/-- What the specification asks first. -/
def pre1 (a : Alr) : Bool := isName a.ev.data.toList && inB a.ver 1 1000 && inB a.tm 0 1073741824 && inB a.n 1 a.of && decide (a.of ≤ 256) && inB a.grid 1 8
def pre2 (a : Alr) : Bool := pre1 a && inB a.before 0 2147483646 && (decide (1 < a.ver) || a.before == 0) && (((a.cells.length : Int) == 0) == a.wd)
theorem okA_pre (a : Alr) : okA a = (pre2 a && rising (-1) (manyCells a.grid) a.cells) := by
  unfold okA pre2 pre1
  rw [isEmpty_len]
  by_cases h1 : inB a.ver 1 1000 = true
  · have b1 := inB_true.1 h1
    by_cases hv : a.ver = 1
    · have h2 : decide (1 < a.ver) = false := decide_eq_false (by omega)
      rw [if_pos hv, h2, h1]
      by_cases hb : a.before = 0
      · rw [hb]
        have h3 : inB (0 : Int) 0 2147483646 = true := inB_mk (by omega)
        rw [h3]
        cases inB a.grid 1 8 <;> cases isName a.ev.data.toList <;> cases inB a.tm 0 1073741824 <;> cases decide (a.of ≤ 256) <;> cases inB a.n 1 a.of <;> cases a.wd <;> cases ((a.cells.length : Int) == 0) <;> simp
      · have h3 : (a.before == 0) = false := by simpa using hb
        rw [h3, decide_eq_false hb]
        simp
    · have h2 : decide (1 < a.ver) = true := decide_eq_true (by omega)
      rw [if_neg hv, h2, h1]
      cases inB a.grid 1 8 <;> cases isName a.ev.data.toList <;> cases inB a.tm 0 1073741824 <;> cases decide (a.of ≤ 256) <;> cases inB a.n 1 a.of <;> cases a.wd <;> cases ((a.cells.length : Int) == 0) <;> cases inB a.before 0 2147483646 <;> simp
  · have h1' : inB a.ver 1 1000 = false := by simpa using h1
    rw [h1']
    simp
theorem pre2_grid {a : Alr} (h : pre2 a = true) : inB a.grid 1 8 = true := by
  unfold pre2 pre1 at h
  simp only [Bool.and_eq_true] at h
  exact h.1.1.1.2
/-- The number before the place k. -/
def prevOf (l : List Int) (k : Nat) : Int := if k = 0 then -1 else l.getD (k - 1) 0
theorem prevOf_succ {l : List Int} {k : Nat} (h : k < l.length) : prevOf l (k + 1) = l[k] := by
  simp [prevOf, List.getD, h]
/-- What the specification asks at the place k. -/
def okAt (l : List Int) (many : Int) (k : Nat) (c : Int) : Bool := inB c 0 (many - 1) && (k == 0 || decide (prevOf l k < c))
theorem okAt_rising {l : List Int} {many : Int} {k : Nat} (h : k < l.length) (h0 : 0 < k → 0 ≤ prevOf l k) :
    (okAt l many k l[k] && rising (prevOf l (k + 1)) many (l.drop (k + 1))) = rising (prevOf l k) many (l.drop k) := by
  rw [rising_at h, prevOf_succ h]
  congr 1
  unfold okAt
  by_cases hk : k = 0
  · subst hk
    rw [show prevOf l 0 = -1 from rfl, Bool.eq_iff_iff]
    simp [inB_true]
    omega
  · have := h0 (by omega)
    rw [Bool.eq_iff_iff]
    simp [inB_true, hk]
    omega
theorem okAt_nn {l : List Int} {many : Int} {k : Nat} (h : k < l.length) (h1 : okAt l many k l[k] = true) : 0 < k + 1 → 0 ≤ prevOf l (k + 1) := by
  intro _
  rw [prevOf_succ h]
  unfold okAt at h1
  simp only [Bool.and_eq_true] at h1
  exact (inB_true.1 h1.1).1
theorem okAt_no {l : List Int} {many c : Int} {k : Nat} (h : inB c 0 (many - 1) = false) : okAt l many k c = false := by unfold okAt; rw [h]; rfl
theorem okAt_first {l : List Int} {many c : Int} {k : Nat} (h : inB c 0 (many - 1) = true) (hk : k = 0) : okAt l many k c = true := by subst hk; unfold okAt; rw [h]; rfl
theorem okAt_lt {l : List Int} {many c : Int} {k : Nat} (h : inB c 0 (many - 1) = true) (hk : prevOf l k < c) : okAt l many k c = true := by unfold okAt; rw [h, decide_eq_true hk]; simp
theorem okAt_ge {l : List Int} {many c : Int} {k : Nat} (h0 : ¬ k = 0) (hk : ¬ prevOf l k < c) : okAt l many k c = false := by unfold okAt; rw [decide_eq_false hk]; simp [h0]
theorem prevOf_pos {l : List Int} {k : Nat} (h0 : ¬ k = 0) (h : k - 1 < l.length) : prevOf l k = l[k - 1] := by
  simp [prevOf, h0, List.getD, h]
/-- An error of a check. -/
def errA (ok : Bool) (code : Int) : Int := if ok then 0 else code
end Al
end Go.Proofs.YtohfofecbdfkgaaDoor
