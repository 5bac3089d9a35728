/-
  DERIVED: THE SHELF's CONTRACTS AT THIS DUMP, IN PLAIN WORDS (tools/lay-plain.mjs out of 'TryzShelf.lean', which tools/lay-shelf.mjs wrote): THE SAME DECLARATIONS UNDER THE SAME NAMES: 'import', 'namespace', 'open', 'def', 'theorem' AND NOTHING ELSE: no command of the shelf's: FOR A HAND-IN. Each laying: the table of numbers ('.._ren') and one theorem, a field a fact of the dump's own or the kernel's comparison; each contract: ONE APPLICATION.
-/
import Derived.Shelf.Strings.Builder1
import Derived.Shelf.Small.Strs
import Derived.Shelf.Strings.BuilderF
import Derived.Shelf.Strings.BuilderK
import Derived.Shelf.Strconv.Itoa0
import Derived.Shelf.Strconv.Itoa1
import Derived.Shelf.LaysM
import Derived.Shelf.Strconv.Itoa2
import Derived.Shelf.Strconv.Itoa3
import Derived.Shelf.Strings.Search1
import Derived.Shelf.Strings.Search2
import Derived.Shelf.Strings.Search3
import Derived.Shelf.Strings.Count
import Derived.Shelf.Strings.Shaped
import Derived.Shelf.Unicode.DecodeSlow
import Derived.Shelf.Strings.BuilderCap
import Derived.Ground.Names2Prog
import Derived.Shelf.Slices.Clone
import Derived.Test.YtmpbhngjkbidcaaGreatDoorProg
import Derived.Test.YtmpbhngjkbidcaaGreatDoorW01
import Derived.WalkLawsBesides
namespace Go.Proofs
open Go.Shelf
def Tryz.lays169_ren : Go.Shelf.Ren := ⟨fun | 169 => 97 | n => n, fun | 70 => 172 | 9 => 9 | 0 => 0 | 72 => 174 | 37 => 167 | 127 => 191 | 3 => 3 | 5 => 5 | n => n, fun | n => n⟩
theorem Tryz.lays169 : Go.Proofs.Lays.n169 Tryz.prog Tryz.lays169_ren := {
  mixed := by kernel_rfl
  f169 := Tryz.func97.trans (congrArg some (by kernel_rfl))
  t0 := Tryz.underlying0
  a0 := Tryz.isAgg0
  z0 := Tryz.sizeOf0
  v0 := Tryz.zeroValue0
  t3 := Tryz.underlying3
  a3 := Tryz.isAgg3
  z3 := Tryz.sizeOf3
  v3 := Tryz.zeroValue3
  t9 := Tryz.underlying9
  a9 := Tryz.isAgg9
  z9 := Tryz.sizeOf9
  v9 := Tryz.zeroValue9
  t37 := Tryz.underlying167
  a37 := Tryz.isAgg167
  z37 := Tryz.sizeOf167
  v37 := Tryz.zeroValue167
  t70 := Tryz.underlying172
  a70 := Tryz.isAgg172
  z70 := Tryz.sizeOf172
  v70 := Tryz.zeroValue172
  t72 := Tryz.underlying174
  a72 := Tryz.isAgg174
  z72 := Tryz.sizeOf174
  v72 := Tryz.zeroValue174
  t127 := Tryz.underlying191
  a127 := Tryz.isAgg191
  z127 := Tryz.sizeOf191
  v127 := Tryz.zeroValue191 }
theorem Tryz.Builder_Extra_169 : Builder.Extra Tryz.prog Tryz.lays169_ren := {
  sizeBuilder := by kernel_rfl
  liesBuilder := by kernel_rfl
  t5 := Tryz.underlying5
  a5 := Tryz.isAgg5
  z5 := Tryz.sizeOf5
  v5 := Tryz.zeroValue5
  infoByte := by kernel_rfl
  cellsByte := by kernel_rfl
  sizeByte := by kernel_rfl
  neB5 := by decide }
open Go.RowKit in
/-- (*strings.Builder).String: "String returns the accumulated string.": WHATEVER THE BUILDER HOLDS. (LAID: no walk: one application.) -/
theorem Tryz.Builder_String_any (B b : Nat) (l : List UInt8) (w : World) (h : Lib.IsBuilder 174 5 B b (Lib.byteCells l) w) (hBw : B ≤ w.heap.size) :
    Calls Tryz.prog 97 #[.pointer (some ⟨b, 0, none⟩)] w fun e w' => e = .returned (.string ⟨l.toArray⟩) ∧ Below B w w' := Any.Builder_String_any Tryz.lays169 Tryz.Builder_Extra_169 B b l w h hBw
def Tryz.laysM171_ren : Go.Shelf.Ren := ⟨fun | 171 => 140 | 243 => 163 | 246 => 176 | 283 => 179 | 284 => 180 | 285 => 181 | 286 => 182 | 129 => 160 | 317 => 183 | 318 => 184 | 319 => 185 | 320 => 186 | 337 => 187 | 338 => 188 | n => n, fun | 3 => 3 | 9 => 9 | 2 => 2 | 4 => 4 | 171 => 255 | 0 => 0 | 53 => 216 | 37 => 167 | 5 => 5 | 173 => 257 | 212 => 260 | 51 => 232 | 20 => 20 | 213 => 261 | 46 => 204 | 232 => 262 | 233 => 263 | n => n, fun | 17 => 5 | 18 => 6 | 19 => 7 | n => n⟩
theorem Tryz.laysM171 : Go.Proofs.LaysM.n171 Tryz.prog Tryz.laysM171_ren := {
  mixed := by kernel_rfl
  f129 := Tryz.func160.trans (congrArg some (by kernel_rfl))
  f171 := Tryz.func140.trans (congrArg some (by kernel_rfl))
  f243 := Tryz.func163.trans (congrArg some (by kernel_rfl))
  f246 := Tryz.func176.trans (congrArg some (by kernel_rfl))
  f283 := Tryz.func179.trans (congrArg some (by kernel_rfl))
  f284 := Tryz.func180.trans (congrArg some (by kernel_rfl))
  f285 := Tryz.func181.trans (congrArg some (by kernel_rfl))
  f286 := Tryz.func182.trans (congrArg some (by kernel_rfl))
  f317 := Tryz.func183.trans (congrArg some (by kernel_rfl))
  f318 := Tryz.func184.trans (congrArg some (by kernel_rfl))
  f319 := Tryz.func185.trans (congrArg some (by kernel_rfl))
  f320 := Tryz.func186.trans (congrArg some (by kernel_rfl))
  f337 := Tryz.func187.trans (congrArg some (by kernel_rfl))
  f338 := Tryz.func188.trans (congrArg some (by kernel_rfl))
  t0 := Tryz.underlying0
  a0 := Tryz.isAgg0
  z0 := Tryz.sizeOf0
  v0 := Tryz.zeroValue0
  t2 := Tryz.underlying2
  a2 := Tryz.isAgg2
  z2 := Tryz.sizeOf2
  v2 := Tryz.zeroValue2
  t3 := Tryz.underlying3
  a3 := Tryz.isAgg3
  z3 := Tryz.sizeOf3
  v3 := Tryz.zeroValue3
  t4 := Tryz.underlying4
  a4 := Tryz.isAgg4
  z4 := Tryz.sizeOf4
  v4 := Tryz.zeroValue4
  t5 := Tryz.underlying5
  a5 := Tryz.isAgg5
  z5 := Tryz.sizeOf5
  v5 := Tryz.zeroValue5
  t9 := Tryz.underlying9
  a9 := Tryz.isAgg9
  z9 := Tryz.sizeOf9
  v9 := Tryz.zeroValue9
  t20 := Tryz.underlying20
  a20 := Tryz.isAgg20
  z20 := Tryz.sizeOf20
  v20 := Tryz.zeroValue20
  t37 := Tryz.underlying167
  a37 := Tryz.isAgg167
  z37 := Tryz.sizeOf167
  v37 := Tryz.zeroValue167
  t46 := Tryz.underlying204
  a46 := Tryz.isAgg204
  z46 := Tryz.sizeOf204
  v46 := Tryz.zeroValue204
  t51 := Tryz.underlying232
  a51 := Tryz.isAgg232
  z51 := Tryz.sizeOf232
  v51 := Tryz.zeroValue232
  t53 := Tryz.underlying216
  a53 := Tryz.isAgg216
  z53 := Tryz.sizeOf216
  v53 := Tryz.zeroValue216
  t171 := Tryz.underlying255
  a171 := Tryz.isAgg255
  z171 := Tryz.sizeOf255
  v171 := Tryz.zeroValue255
  t173 := Tryz.underlying257
  a173 := Tryz.isAgg257
  z173 := Tryz.sizeOf257
  v173 := Tryz.zeroValue257
  t212 := Tryz.underlying260
  a212 := Tryz.isAgg260
  z212 := Tryz.sizeOf260
  v212 := Tryz.zeroValue260
  t213 := Tryz.underlying261
  a213 := Tryz.isAgg261
  z213 := Tryz.sizeOf261
  t232 := Tryz.underlying262
  a232 := Tryz.isAgg262
  z232 := Tryz.sizeOf262
  v232 := Tryz.zeroValue262
  t233 := Tryz.underlying263
  a233 := Tryz.isAgg263
  z233 := Tryz.sizeOf263
  v233 := Tryz.zeroValue263
  g17 := by kernel_rfl
  g18 := by kernel_rfl
  g19 := by kernel_rfl
  i0 := by kernel_rfl
  i2 := by kernel_rfl
  i3 := by kernel_rfl
  i4 := by kernel_rfl
  i5 := by kernel_rfl
  i9 := by kernel_rfl
  i20 := by kernel_rfl
  i37 := by kernel_rfl
  i46 := by kernel_rfl
  i51 := by kernel_rfl
  i53 := by kernel_rfl
  i171 := by kernel_rfl
  i173 := by kernel_rfl
  i212 := by kernel_rfl
  i232 := by kernel_rfl
  i233 := by kernel_rfl
  m17 := by kernel_rfl
  m18 := by kernel_rfl
  m19 := by kernel_rfl }
open Go.RowKit Go.Sort Go.Lib in
/-- strconv.Itoa: "Itoa is equivalent to FormatInt(int64(i), 10).": i's DECIMAL NUMERAL ('Lib.itoa': a '-' where i is negative, then the digits), FOR EVERY int. The world behind the call: the world before it, new blocks behind the heap (the library's 'var a [24]byte'), draws. (LAID: no walk: one application.) -/
theorem Tryz.strconv_Itoa (n : Int) (h0 : -9223372036854775808 ≤ n) (h1 : n ≤ 9223372036854775807) (w : World) (htab : Lib.TabIs Tryz.prog w "internal/strconv.uint64pow10" .u64 Lib.pow10Tab) :
    Calls Tryz.prog 140 #[.int .i64 n] w fun e w' => e = .returned (.string ⟨(Lib.itoa n).toArray⟩) ∧ ∃ k os, w' = grow (w.drewN k) os := Any.strconv_Itoa Tryz.laysM171 n h0 h1 w htab
def Tryz.laysNm215_ren : Go.Shelf.Ren := ⟨fun | 15 => 80 | n => n, fun | 22 => 32 | 3 => 3 | 4 => 4 | n => n, fun | n => n⟩
theorem Tryz.laysNm215 : Go.Proofs.Lays2.n15 Tryz.prog Tryz.laysNm215_ren := {
  mixed := by kernel_rfl
  f15 := Tryz.func80.trans (congrArg some (by kernel_rfl))
  t3 := Tryz.underlying3
  a3 := Tryz.isAgg3
  z3 := Tryz.sizeOf3
  v3 := Tryz.zeroValue3
  t4 := Tryz.underlying4
  a4 := Tryz.isAgg4
  z4 := Tryz.sizeOf4
  v4 := Tryz.zeroValue4
  t22 := Tryz.underlying32
  a22 := Tryz.isAgg32
  z22 := Tryz.sizeOf32
  v22 := Tryz.zeroValue32
  i3 := by kernel_rfl }
open Go.RowKit Go.Lib in
/-- slices.Clone at []int: "Clone returns a copy of the slice. The elements are copied using assignment, so this is a shallow clone. The result may have additional unused capacity. The result preserves the nilness of s.": OF A SLICE THAT IS NOT nil IT RETURNS A SLICE THAT IS NOT nil, OF THE SAME ELEMENTS, IN MEMORY OF THE CALL's OWN: in the how-to's words (6f): 'w'.ownsRow B e 1 v' n cells': v' begins at the head of a row among the blocks from B on (B: the heap's size at the call), not frozen, whose first cells are the elements · 'Below B w w'': below B all is as it was. The capacity is whatever the run-time gives. 'zs': what the cells behind the slice's address hold; 'zs.take n': its elements. (LAID: no walk: one application.) -/
theorem Tryz.slices_Clone_int (b off n c : Nat) (zs : List Int) (w : World) (hz : n ≤ zs.length) (hbig : n * 8 ≤ 140737488355328) (hc : ∀ j, j < zs.length → w.cell? ⟨b, off + j, none⟩ = some (.int .i64 (zs.getD j 0))) :
    Calls Tryz.prog 80 #[.slice (some ⟨b, off, none⟩) n c] w fun e w' => ∃ v', e = .returned v' ∧ w'.ownsRow w.heap.size 3 1 v' n ((zs.take n).map (Value.int .i64)) ∧ v' ≠ .slice none 0 0 ∧ Below w.heap.size w w' := Any.slices_Clone_int Tryz.laysNm215 b off n c zs w hz hbig hc
open Go.RowKit Go.Lib in
/-- The same at nil: nil comes back; the world is as it was. (LAID: no walk: one application.) -/
theorem Tryz.slices_Clone_int_nil (n c : Nat) (w : World) :
    Calls Tryz.prog 80 #[.slice none n c] w fun e w' => e = .returned (.slice none 0 0) ∧ w' = w := Any.slices_Clone_int_nil Tryz.laysNm215 n c w
open Go.RowKit Go.Lib in
/-- The same at a slice of length 0 that is not nil, WHATEVER ITS ADDRESS (no cell is asked for): a slice that is not nil and owns nothing comes back. (LAID: no walk: one application.) -/
theorem Tryz.slices_Clone_int_zero (a : Addr) (c : Nat) (w : World) :
    Calls Tryz.prog 80 #[.slice (some a) 0 c] w fun e w' => ∃ v', e = .returned v' ∧ w'.ownsRow w.heap.size 3 1 v' 0 [] ∧ v' ≠ .slice none 0 0 ∧ Below w.heap.size w w' := Any.slices_Clone_int_zero Tryz.laysNm215 a c w
end Go.Proofs

/-
  Plain definitions: the text of an alert, its digest.
-/
namespace Go.Proofs.YtmpbhngjkbidcaaGreatDoor
namespace Al

theorem nDigits_le : ∀ (k u : Nat), 0 < k → u < 10 ^ k → Lib.nDigits u ≤ k
  | 0, _, h, _ => absurd h (by omega)
  | k + 1, u, _, h => by
    rw [Lib.nDigits]
    by_cases h1 : u < 10
    · rw [dif_pos h1]; omega
    · rw [dif_neg h1]
      have hk : 0 < k := by
        rcases Nat.eq_zero_or_pos k with h0 | h0
        · subst h0; simp at h; omega
        · exact h0
      have := nDigits_le k (u / 10) hk (by rw [Nat.pow_succ] at h; omega)
      omega
theorem itoa_len {n : Int} (h0 : 0 ≤ n) (h1 : n ≤ 2147483647) : (Lib.itoa n).length ≤ 10 := by
  unfold Lib.itoa
  rw [if_neg (by omega), Lib.decDigits_length]
  exact nDigits_le 10 _ (by omega) (by simp; omega)

/-- A word and numbers, blanks between. -/
def rowL (w : List UInt8) (l : List Int) : List UInt8 := w ++ l.flatMap fun n => 32 :: Lib.itoa n
theorem rowL_nil (w : List UInt8) : rowL w [] = w := by simp [rowL]
theorem rowL_snoc (w : List UInt8) (l : List Int) (n : Int) : rowL w (l ++ [n]) = rowL w l ++ 32 :: Lib.itoa n := by
  simp [rowL, List.flatMap_append]
theorem take_snoc {l : List Int} {k : Nat} (h : k < l.length) : l.take (k + 1) = l.take k ++ [l[k]] := by
  rw [List.take_succ_eq_append_getElem h]
/-- The numbers of an alert are not less than 0, and small. -/
def Fine (l : List Int) : Prop := ∀ n ∈ l, 0 ≤ n ∧ n ≤ 2147483647
theorem rising_fine {last many : Int} (h0 : -1 ≤ last) (hm : many ≤ 2147483647) : ∀ {l : List Int}, rising last many l = true → Fine l
  | [], _ => fun n hn => by cases hn
  | c :: r, h => by
    rw [rising] at h
    simp only [Bool.and_eq_true, decide_eq_true_eq] at h
    intro n hn
    rcases List.mem_cons.1 hn with rfl | hn
    · omega
    · exact rising_fine (last := c) (by omega) hm h.2 n hn
theorem rising_length {last many : Int} : ∀ {l : List Int}, rising last many l = true → (l.length : Int) ≤ 0 ∨ (l.length : Int) ≤ many - 1 - last
  | [], _ => by simp
  | c :: r, h => by
    rw [rising] at h
    simp only [Bool.and_eq_true, decide_eq_true_eq] at h
    have := rising_length (last := c) h.2
    rw [List.length_cons]
    omega

/-- The digits, none for 0. -/
def dd (m : Nat) : List UInt8 := if m = 0 then [] else Lib.decDigits m
theorem dd_step {m : Nat} (h : 0 < m) : dd m = dd (m / 10) ++ [UInt8.ofNat (48 + m % 10)] := by
  unfold dd
  rw [if_neg (by omega), Lib.decDigits]
  by_cases h1 : m < 10
  · rw [dif_pos h1, if_pos (by omega), Nat.mod_eq_of_lt h1]; rfl
  · rw [dif_neg h1, if_neg (by omega)]
theorem dd_itoa {m : Nat} (h : 0 < m) : dd m = Lib.itoa m := by
  unfold dd Lib.itoa
  rw [if_neg (by omega), if_neg (by omega)]
  rfl

/-- The lines of an alert. -/
def headL (a : Alr) : List UInt8 := rowL ([97, 108, 101, 114, 116, 32] ++ a.ev.data.toList) [a.ver]
def timeL (a : Alr) : List UInt8 := rowL [116, 105, 109, 101] [a.tm]
def chanceL (a : Alr) : List UInt8 := rowL [99, 104, 97, 110, 99, 101] [a.n, a.of]
def gridL (a : Alr) : List UInt8 := rowL [103, 114, 105, 100] [a.grid]
def whereL (a : Alr) : List UInt8 := if a.wd then [119, 105, 116, 104, 100, 114, 97, 119, 110] else rowL [99, 101, 108, 108, 115] a.cells
def beforeL (a : Alr) : List UInt8 := rowL [98, 101, 102, 111, 114, 101] [a.before]
def endL : List UInt8 := [101, 110, 100]
def lines (a : Alr) : List (List UInt8) := [headL a, timeL a, chanceL a, gridL a, whereL a, beforeL a, endL]
/-- The text of an alert. -/
def textL (a : Alr) : List UInt8 := (lines a).flatMap fun l => l ++ [10]
theorem inB_fine {n lo hi : Int} (h : inB n lo hi = true) (h0 : 0 ≤ lo) (h1 : hi ≤ 2147483647) : 0 ≤ n ∧ n ≤ 2147483647 := by
  have := inB_true.1 h; omega
theorem fine1 {n : Int} (h : 0 ≤ n ∧ n ≤ 2147483647) : Fine [n] := fun m hm => by
  rcases List.mem_cons.1 hm with rfl | hm
  · exact h
  · cases hm
theorem fine2 {n m : Int} (h : 0 ≤ n ∧ n ≤ 2147483647) (h' : 0 ≤ m ∧ m ≤ 2147483647) : Fine [n, m] := fun k hk => by
  rcases List.mem_cons.1 hk with rfl | hk
  · exact h
  · exact fine1 h' k hk
theorem many_in {g : Int} (h : inB g 1 8 = true) : 0 ≤ manyCells g ∧ manyCells g ≤ 384 := by
  have hb := inB_true.1 h
  unfold manyCells
  have e1 := Int.mul_le_mul_of_nonneg_right (show 6 * g ≤ 48 by omega) (show 0 ≤ g by omega)
  have e2 := Int.mul_nonneg (show 0 ≤ 6 * g by omega) (show 0 ≤ g by omega)
  omega
/-- What the walks of the lines need of a valid alert. -/
structure AlGood (a : Alr) : Prop where
  ev : a.ev.size ≤ 16
  ver : 0 ≤ a.ver ∧ a.ver ≤ 2147483647
  tm : 0 ≤ a.tm ∧ a.tm ≤ 2147483647
  n : 0 ≤ a.n ∧ a.n ≤ 2147483647
  of : 0 ≤ a.of ∧ a.of ≤ 2147483647
  grid : 0 ≤ a.grid ∧ a.grid ≤ 2147483647
  before : 0 ≤ a.before ∧ a.before ≤ 2147483647
  cells : Fine a.cells
  many : a.cells.length ≤ 384
  wd : a.wd = true → a.cells = []
theorem okA_good {a : Alr} (h : okA a = true) : AlGood a := by
  obtain ⟨h1, h2, h3, h4, h5, h6, h7, h8, h9⟩ := okA_parts h
  have hm := many_in h1
  have hn := inB_true.1 h6
  refine ⟨?_, inB_fine h3 (by omega) (by omega), inB_fine h4 (by omega) (by omega), by omega, by omega, inB_fine h1 (by omega) (by omega), ?_, rising_fine (by omega) (by omega) h8, ?_, ?_⟩
  · rw [isName_size] at h2
    simp only [Bool.and_eq_true] at h2
    have := inB_true.1 h2.1
    omega
  · split at h9
    · have := of_decide_eq_true h9; omega
    · exact inB_fine h9 (by omega) (by omega)
  · have := rising_length h8; omega
  · intro hw
    rw [hw] at h7
    have : (a.cells.length : Int) = 0 := by simpa using h7
    exact List.eq_nil_of_length_eq_zero (by omega)
/-- The text up to the cells. -/
def preL (a : Alr) : List UInt8 := [97, 108, 101, 114, 116, 32] ++ a.ev.data.toList ++ [32] ++ Lib.itoa a.ver ++ [10, 116, 105, 109, 101, 32] ++ Lib.itoa a.tm ++ [10, 99, 104, 97, 110, 99, 101, 32] ++ Lib.itoa a.n ++ [32] ++ Lib.itoa a.of ++ [10, 103, 114, 105, 100, 32] ++ Lib.itoa a.grid ++ [10]
theorem textL_pre (a : Alr) : textL a = preL a ++ whereL a ++ ([10, 98, 101, 102, 111, 114, 101, 32] ++ Lib.itoa a.before ++ [10, 101, 110, 100, 10]) := by
  simp [textL, lines, headL, timeL, chanceL, gridL, beforeL, endL, preL, rowL]
theorem whereL_t {a : Alr} (h : a.wd = true) : whereL a = [119, 105, 116, 104, 100, 114, 97, 119, 110] := by unfold whereL; rw [if_pos h]
theorem whereL_f {a : Alr} (h : ¬ a.wd = true) : whereL a = rowL [99, 101, 108, 108, 115] a.cells := by unfold whereL; rw [if_neg h]
theorem rowL_len {w : List UInt8} {l : List Int} (h : Fine l) : (rowL w l).length ≤ w.length + 11 * l.length := by
  unfold rowL
  rw [List.length_append]
  have : (l.flatMap fun n => 32 :: Lib.itoa n).length ≤ 11 * l.length := by
    induction l with
    | nil => simp
    | cons n r ih =>
      have h1 := h n (by simp)
      have h2 := itoa_len h1.1 h1.2
      have h3 := ih fun m hm => h m (by simp [hm])
      rw [List.flatMap_cons, List.length_append, List.length_cons, List.length_cons]
      omega
  omega
theorem textL_len {a : Alr} (h : AlGood a) : (textL a).length ≤ 1048576 := by
  rw [textL_pre]
  have l1 := itoa_len h.ver.1 h.ver.2
  have l2 := itoa_len h.tm.1 h.tm.2
  have l3 := itoa_len h.n.1 h.n.2
  have l4 := itoa_len h.of.1 h.of.2
  have l5 := itoa_len h.grid.1 h.grid.2
  have l6 := itoa_len h.before.1 h.before.2
  have l7 := h.many
  have l8 : a.ev.data.toList.length ≤ 16 := by have := h.ev; rw [Array.length_toList]; exact this
  have l9 : (whereL a).length ≤ 9 + 11 * a.cells.length := by
    unfold whereL
    split
    · simp
    · have := rowL_len (w := [99, 101, 108, 108, 115]) h.cells
      simp at this
      omega
  unfold preL
  simp only [List.length_append, List.length_cons, List.length_nil]
  omega
/-- The digest of a text. -/
def digL (l : List UInt8) : Int := l.foldl (fun d b => (d * 31 + b.toNat + 1) % 2147483647) 7
def digA (a : Alr) : Int := digL (textL a)
theorem digL_snoc (l : List UInt8) (b : UInt8) : digL (l ++ [b]) = (digL l * 31 + b.toNat + 1) % 2147483647 := by simp [digL]
theorem digL_in (l : List UInt8) : 0 ≤ digL l ∧ digL l ≤ 2147483646 := by
  rcases List.eq_nil_or_concat l with h | ⟨r, b, h⟩
  · subst h; decide
  · rw [h, List.concat_eq_append, digL_snoc]
    have := Int.emod_nonneg (digL r * 31 + b.toNat + 1) (show (2147483647 : Int) ≠ 0 by omega)
    have := Int.emod_lt_of_pos (digL r * 31 + b.toNat + 1) (show (0 : Int) < 2147483647 by omega)
    omega
end Al
end Go.Proofs.YtmpbhngjkbidcaaGreatDoor

/-
  The walks of 'row' and 'Decimal'.
-/
namespace Go.Proofs.YtmpbhngjkbidcaaGreatDoor
open Go.RowKit Al

/-- The library's table of powers of ten lies in the world. -/
def Tab (w : World) : Prop := Lib.TabIs Tryz.prog w "internal/strconv.uint64pow10" .u64 Lib.pow10Tab
theorem gTab : Tryz.prog.globalNamed "internal/strconv.uint64pow10" = some 5 := by kernel_rfl
theorem Tab.below {w w' : World} {B : Nat} (h : Tab w) (hB : 5 < B) (hb : Below B w w') : Tab w' := by
  unfold Tab Lib.TabIs at *
  exact var?_below hb gTab hB h

theorem grow_below (w : World) (k : Nat) (os : Array Obj) : Below w.heap.size w (Go.Sort.grow (w.drewN k) os) := by
  refine (below_drewN (Below.refl _ _) k).trans ⟨rfl, rfl, rfl, ?_, fun i hi => ?_⟩
  · show (w.drewN k).heap.size ≤ ((w.drewN k).heap ++ os).size
    simp
  · show ((w.drewN k).heap ++ os)[i]? = _
    have e : (w.drewN k).heap = w.heap := World.heap_drewN w k
    rw [e, Array.getElem?_append_left hi]
theorem ret_str {a b : ByteArray} (h : a = b) : Ending.returned (.string a) = .returned (.string b) := by rw [h]
theorem bytes_eq {t : ByteArray} {l : List UInt8} (h : t.data.toList = l) : t = ⟨l.toArray⟩ := by
  rw [← h]

theorem str_add (s t : ByteArray) : (s ++ t).data.toList = s.data.toList ++ t.data.toList := by simp [ByteArray.data_append]

theorem enc_lt : ∀ d : Nat, d < 10 → Utf8.encode ((48 + d : Nat) : Int) = ⟨#[UInt8.ofNat (48 + d)]⟩
  | 0, _ => rfl | 1, _ => rfl | 2, _ => rfl | 3, _ => rfl | 4, _ => rfl | 5, _ => rfl | 6, _ => rfl | 7, _ => rfl | 8, _ => rfl | 9, _ => rfl
  | d + 10, h => absurd h (by omega)
theorem enc_digit (m : Nat) : Utf8.encode (48 + (m : Int) % 10) = ⟨#[UInt8.ofNat (48 + m % 10)]⟩ := by
  rw [show 48 + (m : Int) % 10 = ((48 + m % 10 : Nat) : Int) from by omega]
  exact enc_lt _ (by omega)
theorem enc_size (m : Nat) : (Utf8.encode (48 + (m : Int) % 10)).size ≤ 4 := by
  rw [enc_digit]
  show 1 ≤ 4
  omega

theorem dec_next {m N : Nat} {t : ByteArray} (hp : 0 < m) (ht : Hid (dd m ++ t.data.toList = dd N)) : Hid (dd (m / 10) ++ (Utf8.encode (48 + (m : Int) % 10) ++ t).data.toList = dd N) := by
  show _ = _
  rw [← ht.out, dd_step hp, str_add, enc_digit]
  simp

def DecRel (N : Nat) (a s : Value) : Prop := ∃ (m : Nat) (t : ByteArray), a = .int .i64 m ∧ s = .string t ∧ m ≤ 2147483647 ∧ Hid (dd m ++ t.data.toList = dd N)
set_option maxRecDepth 100000 in
set_option maxHeartbeats 1000000 in
theorem decimal_ (n : Int) (h0 : 0 ≤ n) (h1 : n ≤ 2147483647) (w : World) :
    Calls Tryz.prog 10 #[.int .i64 n] w fun e w' => e = .returned (.string ⟨(Lib.itoa n).toArray⟩) ∧ w = w' := by
  obtain ⟨N, rfl⟩ := Int.eq_ofNat_of_zero_le h0
  by_cases hz : N = 0
  · subst hz
    have HI : Hid ((⟨(Lib.itoa ((0 : Nat) : Int)).toArray⟩ : ByteArray) = ⟨#[48]⟩) := by
      show _ = _
      rw [show Lib.itoa ((0 : Nat) : Int) = [48] from by simp [Lib.itoa, Lib.decDigits_one]]
    go_enter Tryz.func10, Tryz.ntmps10
    go_wp2
    go_ret
    exact ⟨ret_str HI.out.symm, rfl⟩
  · have hz' : ((N : Int) == 0) = false := by simpa using hz
    have hn' : ¬ (N : Int) < 0 := by omega
    have HI := Lib.hid (dd_itoa (m := N) (by omega))
    have HL := Lib.hid (itoa_len h0 h1)
    clear hz
    go_enter Tryz.func10, Tryz.ntmps10
    go_wp2
    go_loop [0, 3] (fun a s => DecRel N a s) (fun a _ => (intOf a).toNat)
    case atStart => exact ⟨N, _, rfl, rfl, by omega, by show _ = _; simp⟩
    case round =>
      obtain ⟨m, t, rfl, rfl, hm, ht⟩ := hrel
      have hsz : t.size ≤ 10 := by
        have e := congrArg List.length ht.out
        rw [HI.out, List.length_append] at e
        have := HL.out
        have e2 : t.data.toList.length = t.size := by rw [Array.length_toList]; rfl
        omega
      by_cases hp : 0 < m
      · have hp' : ((m : Int) != 0) = true := by simp; omega
        have HX := dec_next hp ht
        have HX' := Lib.hid HX
        clear HX
        go_wp2_with fail
        all_goals first
          | (exfalso; have := enc_size m; omega)
          | (go_round
             case rel => (first | exact ⟨m / 10, _, by go_num, rfl, by omega, HX'.out⟩ | ((repeat apply Exists.intro); refine ⟨⟨m / 10, _, by go_num, rfl, by omega, HX'.out⟩, ?_⟩; (repeat refine ⟨rfl, ?_⟩); exact rfl))
             case measure => simp [intOf]; omega)
      · obtain rfl : m = 0 := by omega
        have HF : Hid (t.data.toList = Lib.itoa N) := by
          show _ = _
          rw [← HI.out, ← ht.out]; rfl
        go_wp2
        go_ret
        exact ⟨ret_str (bytes_eq HF.out), rfl⟩

def RowRel (word : ByteArray) (l : List Int) (s i : Value) : Prop := ∃ (k : Nat) (t : ByteArray), k ≤ l.length ∧ s = .string t ∧ i = .int .i64 k ∧ t.size ≤ word.size + 11 * k ∧ Hid (t.data.toList = rowL word.data.toList (l.take k))
set_option maxRecDepth 100000 in
set_option maxHeartbeats 1000000 in
theorem row_ (word : ByteArray) (l : List Int) (A : Option Addr) (c B : Nat) (w : World) (hw : word.size ≤ 1048576) (hl : l.length ≤ 1048576) (hf : Fine l) (h : Sl w B 1 A l.length c (ints l)) (hB : B ≤ w.heap.size) (ht : Tab w) (h3 : 8 ≤ w.heap.size) :
    Calls Tryz.prog 120 #[.string word, .slice A l.length c] w fun e w' => ∃ t : ByteArray, e = .returned (.string t) ∧ Hid (t.data.toList = rowL word.data.toList l) ∧ t.size ≤ word.size + 11 * l.length ∧ Below w.heap.size w w' := by
  have HF := Lib.hid hf
  clear hf
  go_enter Tryz.func120, Tryz.ntmps120
  go_wp2
  go_loopw [0, 9] (fun s i wr => RowRel word l s i ∧ Below w.heap.size w wr) (fun _ i _ => l.length - (intOf i).toNat)
  case atStart => exact ⟨⟨0, word, Nat.zero_le _, rfl, rfl, by omega, by show _ = _; rw [List.take_zero, rowL_nil]⟩, Below.refl _ _⟩
  case round =>
    obtain ⟨⟨k, t, hk, rfl, rfl, hsz, hp⟩, hb⟩ := hrel
    by_cases hlt : k < l.length
    · obtain ⟨b, off, rfl, hbb, hc⟩ := h.int_at hlt hlt
      have hc' : wr.cell? ⟨b, off + k, none⟩ = some (.int .i64 l[k]) := by rw [(bcell hb).1 b (off + k) (by omega)]; exact hc
      have hr := HF.out l[k] (List.getElem_mem hlt)
      have hlen := itoa_len hr.1 hr.2
      have HT := Lib.hid (ht.below (by omega) hb)
      have HS : Hid ((t ++ ((⟨#[32]⟩ : ByteArray) ++ ⟨(Lib.itoa l[k]).toArray⟩)).data.toList = rowL word.data.toList (l.take (k + 1))) := by
        show _ = _
        rw [take_snoc hlt, rowL_snoc, ← hp.out, str_add, str_add]
        simp
      have hsz' : (t ++ ((⟨#[32]⟩ : ByteArray) ++ ⟨(Lib.itoa l[k]).toArray⟩)).size ≤ word.size + 11 * (k + 1) := by
        rw [ByteArray.size_append, ByteArray.size_append]
        show t.size + (1 + (Lib.itoa l[k]).toArray.size) ≤ _
        rw [List.size_toArray]
        omega
      go_wp2_with (go_at_call 140; refine (Tryz.strconv_Itoa _ (by omega) (by omega) _ HT.out).mono ?_; rintro e w' ⟨rfl, q, os, rfl⟩)
      go_roundw
      case rel => (first | exact ⟨⟨k + 1, _, by omega, rfl, by go_num, hsz', HS⟩, hb.trans ((grow_below _ _ _).mono hb.size)⟩ | ((repeat apply Exists.intro); refine ⟨⟨⟨k + 1, _, by omega, rfl, by go_num, hsz', HS⟩, hb.trans ((grow_below _ _ _).mono hb.size)⟩, ?_⟩; (repeat refine ⟨rfl, ?_⟩); exact rfl))
      case measure => simp [intOf]; omega
    · obtain rfl : k = l.length := by omega
      go_wp2
      go_ret
      exact ⟨t, rfl, by show _ = _; rw [hp.out, List.take_of_length_le (Nat.le_refl _)], hsz, hb⟩
end Go.Proofs.YtmpbhngjkbidcaaGreatDoor
