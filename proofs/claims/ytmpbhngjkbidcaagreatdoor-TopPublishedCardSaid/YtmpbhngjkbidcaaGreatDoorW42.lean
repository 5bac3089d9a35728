/-
  Plain: what the program's Parse reads: lines, words and numbers; of the text of a valid alert it is that alert.
-/
import Derived.Test.YtmpbhngjkbidcaaGreatDoorW33
import Derived.Test.YtmpbhngjkbidcaaGreatDoorW35
import Derived.Lib.AtoiAll
import Derived.Lib.Strings
import Derived.Test.YtmpbhngjkbidcaaGreatDoorW25
import Derived.WalkMore
import Derived.Test.YtmpbhngjkbidcaaGreatDoorW08
import Derived.IntWalk
import Derived.Test.YtmpbhngjkbidcaaGreatDoorW19
import Derived.Orders
namespace Go.Proofs.YtmpbhngjkbidcaaGreatDoor
open Al

theorem cutAt_row : ∀ {ns : List Int} {w : List UInt8}, (32 : UInt8) ∉ w → (∀ n ∈ ns, 0 ≤ n) → cutAt 32 (rowL w ns) = w :: ns.map Lib.itoa
  | [], w, hw, _ => by rw [rowL_nil, cutAt_no hw]; rfl
  | n :: ns, w, hw, hn => by
    have e : rowL w (n :: ns) = w ++ 32 :: rowL (Lib.itoa n) ns := by simp [rowL]
    rw [e, cutAt_app _ hw, cutAt_row (itoa_no (hn n List.mem_cons_self) (by decide)) (fun m hm => hn m (List.mem_cons_of_mem _ hm))]
    rfl
theorem fold_ge (l : List UInt8) : ∀ acc : Nat, acc ≤ l.foldl (fun n b => n * 10 + (b.toNat - 48)) acc := by
  induction l with
  | nil => intro acc; exact Nat.le_refl _
  | cons b l ih => intro acc; have := ih (acc * 10 + (b.toNat - 48)); rw [List.foldl_cons]; omega
theorem parse_digits : ∀ (l : List UInt8) (acc : Nat), (∀ b ∈ l, 48 ≤ b.toNat ∧ b.toNat ≤ 57) → l.foldl (fun n b => n * 10 + (b.toNat - 48)) acc ≤ 2147483647 → Lib.parseUint10 acc l = .ok (l.foldl (fun n b => n * 10 + (b.toNat - 48)) acc)
  | [], acc, _, _ => rfl
  | b :: l, acc, hd, hs => by
    have h0 := fold_ge (b :: l) acc
    have hb := hd b List.mem_cons_self
    have h1 := fold_ge l (acc * 10 + (b.toNat - 48))
    rw [List.foldl_cons] at hs h0 ⊢
    rw [Lib.parseUint10, if_pos hb, if_neg (by omega), if_neg (by omega)]
    exact parse_digits l _ (fun c hc => hd c (List.mem_cons_of_mem _ hc)) hs
theorem atoi_itoa {n : Int} (h0 : 0 ≤ n) (h1 : n ≤ 2147483647) : Lib.atoiAll (Lib.itoa n) = .ok n := by
  obtain ⟨hv, hd⟩ := dec_val n.toNat
  rw [itoa_dec h0]
  have hp := parse_digits (Lib.decDigits n.toNat) 0 hd (by have : valL (Lib.decDigits n.toNat) ≤ 2147483647 := by omega
                                                           exact this)
  have hv2 : (Lib.decDigits n.toNat).foldl (fun n b => n * 10 + (b.toNat - 48)) 0 = n.toNat := hv
  rw [hv2] at hp
  cases hl : Lib.decDigits n.toNat with
  | nil =>
    have := Lib.decDigits_length n.toNat
    have h2 := Lib.nDigits_pos n.toNat
    rw [hl] at this
    simp at this
    omega
  | cons c r =>
    rw [hl] at hp
    have hc := hd c (by rw [hl]; exact List.mem_cons_self)
    have c1 : ¬ c.toNat = 45 := by omega
    have c2 : ¬ (c.toNat = 43 ∨ c.toNat = 45) := by omega
    unfold Lib.atoiAll
    simp only [if_neg c2, Lib.parseMag, if_neg (List.cons_ne_nil c r), hp]
    rw [if_neg (by omega), if_neg (by omega), if_neg c1]
    exact congrArg _ (Int.toNat_of_nonneg h0)
theorem numsOf_itoa : ∀ {ns : List Int}, (∀ n ∈ ns, 0 ≤ n ∧ n ≤ 2147483647) → numsOf (ns.map Lib.itoa) = some ns
  | [], _ => rfl
  | n :: ns, h => by
    obtain ⟨h0, h1⟩ := h n List.mem_cons_self
    rw [List.map_cons, numsOf, atoi_itoa h0 h1, numsOf_itoa (fun m hm => h m (List.mem_cons_of_mem _ hm))]
    rfl
theorem trim_nl (l : List UInt8) : Lib.trimSuffix (l ++ [10]) [10] = l := by
  unfold Lib.trimSuffix
  have h : Lib.hasSuffix (l ++ [10]) [10] = true := by simp [Lib.hasSuffix]
  rw [if_pos h]
  simp
/-- A line that is a word and numbers. -/
theorem lineA_row (a : Alr) {w : List UInt8} {ns : List Int} (hw : (32 : UInt8) ∉ w) (hs : skipN w = 1) (hn : ∀ n ∈ ns, 0 ≤ n ∧ n ≤ 2147483647) : lineA a (rowL w ns ++ [10]) = some (stepA a w (w :: ns.map Lib.itoa) ns) := by
  unfold lineA lineP
  rw [trim_nl, cutAt_row hw (fun n h => (hn n h).1), List.headD_cons, hs, List.drop_succ_cons, List.drop_zero, numsOf_itoa hn]
  rfl
theorem head_cut {ev : List UInt8} (h : ∀ c ∈ ev, 33 ≤ c.toNat) {v : Int} (hv : 0 ≤ v) : cutAt 32 (rowL ([97, 108, 101, 114, 116, 32] ++ ev) [v]) = [sAlert, ev, Lib.itoa v] := by
  have e : rowL ([97, 108, 101, 114, 116, 32] ++ ev) [v] = sAlert ++ 32 :: rowL ev [v] := by simp [rowL, sAlert]
  have h32 : (32 : UInt8) ∉ ev := fun hm => absurd (h _ hm) (by decide)
  rw [e, cutAt_app _ (by decide), cutAt_row h32 (fun n hn => by rw [List.mem_singleton.1 hn]; exact hv)]
  rfl
theorem row_no {w : List UInt8} (hw : (10 : UInt8) ∉ w) {l : List Int} (hl : Fine l) : (10 : UInt8) ∉ rowL w l := by
  intro h
  rcases List.mem_append.1 h with h | h
  · exact hw h
  · exact flat_no (by decide) hl h
theorem lines_no {a : Alr} (ha : okA a = true) : ∀ l ∈ lines a, (10 : UInt8) ∉ l := by
  have g := okA_good ha
  have na : ∀ c ∈ a.ev.data.toList, 33 ≤ c.toNat := by
    have := (okA_parts ha).2.1
    rw [isName_size, Bool.and_eq_true] at this
    exact name_no this.2
  have f1 : ∀ {n : Int}, (0 ≤ n ∧ n ≤ 2147483647) → Fine [n] := fun h => fine1 h
  intro l hl
  simp only [lines, List.mem_cons, List.not_mem_nil, or_false] at hl
  rcases hl with rfl | rfl | rfl | rfl | rfl | rfl | rfl
  · refine row_no (fun h => ?_) (f1 g.ver)
    rcases List.mem_append.1 h with h | h
    · exact absurd h (by decide)
    · exact absurd (na _ h) (by decide)
  · exact row_no (by decide) (f1 g.tm)
  · refine row_no (by decide) (fun n hn => ?_)
    rcases List.mem_cons.1 hn with rfl | hn
    · exact g.n
    · rw [List.mem_singleton.1 hn]; exact g.of
  · exact row_no (by decide) (f1 g.grid)
  · exact where_no g
  · exact row_no (by decide) (f1 g.before)
  · decide
theorem runA_some {a b : Alr} {l : List UInt8} {r : List (List UInt8)} (h : lineA a l = some b) : runA a (l :: r) = runA b r := by rw [runA, h]
theorem parseA_text {a : Alr} (ha : okA a = true) : parseA (textL a) = a := by
  have g := okA_good ha
  have na : ∀ c ∈ a.ev.data.toList, 33 ≤ c.toNat := by
    have := (okA_parts ha).2.1
    rw [isName_size, Bool.and_eq_true] at this
    exact name_no this.2
  have hl : linesOf (textL a) = (lines a).map fun l => l ++ [10] := linesOf_lines (lines_no ha)
  have h1 : lineA Al.zero (headL a ++ [10]) = some { Al.zero with ver := a.ver, ev := a.ev } := by
    unfold lineA lineP
    rw [trim_nl, headL, head_cut na g.ver.1, List.headD_cons, show skipN sAlert = 2 from rfl, List.drop_succ_cons, List.drop_succ_cons, List.drop_zero, show [Lib.itoa a.ver] = [a.ver].map Lib.itoa from rfl, numsOf_itoa (fine1 g.ver)]
    rfl
  have h2 : ∀ b : Alr, lineA b (timeL a ++ [10]) = some { b with tm := a.tm } := fun b => lineA_row b (w := sTime) (ns := [a.tm]) (by decide) rfl (fine1 g.tm)
  have h3 : ∀ b : Alr, lineA b (chanceL a ++ [10]) = some { b with n := a.n, of := a.of } := fun b => lineA_row b (w := sChance) (ns := [a.n, a.of]) (by decide) rfl (fun n hn => by
    rcases List.mem_cons.1 hn with rfl | hn
    · exact g.n
    · rw [List.mem_singleton.1 hn]; exact g.of)
  have h4 : ∀ b : Alr, lineA b (gridL a ++ [10]) = some { b with grid := a.grid } := fun b => lineA_row b (w := sGrid) (ns := [a.grid]) (by decide) rfl (fine1 g.grid)
  have h5 : ∀ b : Alr, b.wd = false → b.cells = [] → lineA b (whereL a ++ [10]) = some { b with wd := a.wd, cells := a.cells } := fun b hb hc => by
    cases hw : a.wd with
    | true =>
      have h := lineA_row b (w := sWithdrawn) (ns := []) (by decide) rfl (fun n hn => by cases hn)
      rw [rowL_nil] at h
      rw [g.wd hw, ← hc]
      unfold whereL
      rw [hw]
      exact h
    | false =>
      have h := lineA_row b (w := sCells) (ns := a.cells) (by decide) rfl g.cells
      rw [← hb]
      unfold whereL
      rw [hw]
      exact h
  have h6 : ∀ b : Alr, lineA b (beforeL a ++ [10]) = some { b with before := a.before } := fun b => lineA_row b (w := sBefore) (ns := [a.before]) (by decide) rfl (fine1 g.before)
  have h7 : ∀ b : Alr, lineA b (endL ++ [10]) = some b := fun b => by
    have h := lineA_row b (w := endL) (ns := []) (by decide) rfl (fun n hn => by cases hn)
    rw [rowL_nil] at h
    exact h
  unfold parseA
  rw [hl]
  simp only [lines, List.map_cons, List.map_nil]
  rw [runA_some h1, runA_some (h2 _), runA_some (h3 _), runA_some (h4 _), runA_some (h5 _ rfl rfl), runA_some (h6 _), runA_some (h7 _)]
  rfl
end Go.Proofs.YtmpbhngjkbidcaaGreatDoor

/-
  Plain: what the specification's Parse reads; of the text of a valid alert it is that alert.
-/
namespace Go.Proofs.YtmpbhngjkbidcaaGreatDoor
open Al

/-- The words of a text. -/
def wordsOf (l : List UInt8) : List (List UInt8) := (cutAt 32 l).filter fun p => !p.isEmpty
/-- The number that digits without a leading zero say, at most ten of them; 0 if they say none. -/
def natB (l : List UInt8) : Int := if l.length < 1 ∨ 10 < l.length ∨ (l.headD 0 = 48 ∧ 1 < l.length) then 0 else if l.all (fun b => decide (48 ≤ b.toNat ∧ b.toNat ≤ 57)) then (valL l : Int) else 0
def digitsB (ws : List (List UInt8)) (i : Nat) : Int := match ws[i]? with
  | some w => natB w
  | none => 0
def wordB (ws : List (List UInt8)) (i : Nat) : List UInt8 := ws.getD i []
def cellsB (ws : List (List UInt8)) : List Int := ((ws.drop 1).take 384).map natB
def parseB (s : List UInt8) : Alr :=
  let l := fun i => wordsOf ((cutAt 10 s).getD i [])
  ⟨⟨(wordB (l 0) 1).toArray⟩, digitsB (l 0) 2, digitsB (l 1) 1, digitsB (l 2) 1, digitsB (l 2) 2, digitsB (l 3) 1, cellsB (l 4), decide (wordB (l 4) 0 = sWithdrawn), digitsB (l 5) 1⟩
theorem itoa_ne {n : Int} (h : 0 ≤ n) : Lib.itoa n ≠ [] := by
  rw [itoa_dec h]
  intro e
  have := Lib.decDigits_length n.toNat
  have h2 := Lib.nDigits_pos n.toNat
  rw [e] at this
  simp at this
  omega
theorem nDigits_le : ∀ (k u : Nat), u < 10 ^ (k + 1) → Lib.nDigits u ≤ k + 1
  | 0, u, h => by rw [Lib.nDigits_small (by omega)]; exact Nat.le_refl _
  | k + 1, u, h => by
    by_cases h10 : u < 10
    · rw [Lib.nDigits_small h10]; omega
    · rw [Lib.nDigits_big h10]
      have := nDigits_le k (u / 10) (by rw [Nat.pow_succ] at h; omega)
      omega
theorem dec_head (u : Nat) (h : 1 ≤ u) : (Lib.decDigits u).headD 0 ≠ 48 := by
  induction u using Nat.strongRecOn with
  | ind u ih =>
    by_cases h10 : u < 10
    · rw [Lib.decDigits_one h10, List.headD_cons]
      intro e
      have := congrArg UInt8.toNat e
      rw [digit_nat h10] at this
      simp at this
      omega
    · rw [Lib.decDigits, dif_neg h10]
      have h1 := ih (u / 10) (by omega) (by omega)
      cases hd : Lib.decDigits (u / 10) with
      | nil =>
        have := Lib.decDigits_length (u / 10)
        have h2 := Lib.nDigits_pos (u / 10)
        rw [hd] at this
        simp at this
        omega
      | cons c r =>
        rw [hd] at h1
        simpa using h1
theorem natB_itoa {n : Int} (h0 : 0 ≤ n) (h1 : n ≤ 2147483647) : natB (Lib.itoa n) = n := by
  obtain ⟨hv, hd⟩ := dec_val n.toNat
  have hl : (Lib.decDigits n.toNat).length = Lib.nDigits n.toNat := Lib.decDigits_length _
  have hp := Lib.nDigits_pos n.toNat
  have h10 := nDigits_le 9 n.toNat (by omega)
  rw [itoa_dec h0]
  unfold natB
  rw [if_neg, if_pos, hv]
  · exact Int.toNat_of_nonneg h0
  · exact List.all_eq_true.2 fun b hb => decide_eq_true (hd b hb)
  · rintro (h | h | ⟨h, h2⟩)
    · omega
    · omega
    · by_cases hz : n.toNat < 10
      · rw [Lib.decDigits_one hz] at h2
        simp at h2
      · exact dec_head _ (by omega) h
theorem words_row {w : List UInt8} {ns : List Int} (hw : (32 : UInt8) ∉ w) (hne : w ≠ []) (hn : ∀ n ∈ ns, 0 ≤ n) : wordsOf (rowL w ns) = w :: ns.map Lib.itoa := by
  unfold wordsOf
  rw [cutAt_row hw hn, List.filter_cons, if_pos (by simpa using hne)]
  congr 1
  refine List.filter_eq_self.2 fun p hp => ?_
  obtain ⟨n, hm, rfl⟩ := List.mem_map.1 hp
  simpa using itoa_ne (hn n hm)
theorem cut_lines : ∀ {ls : List (List UInt8)}, (∀ l ∈ ls, (10 : UInt8) ∉ l) → cutAt 10 (ls.flatMap fun l => l ++ [10]) = ls ++ [[]]
  | [], _ => rfl
  | l :: ls, h => by
    have e : ((l :: ls).flatMap fun l => l ++ [10]) = l ++ 10 :: (ls.flatMap fun l => l ++ [10]) := by simp
    rw [e, cutAt_app _ (h l List.mem_cons_self), cut_lines (fun x hx => h x (List.mem_cons_of_mem _ hx))]
    rfl
theorem parseB_text {a : Alr} (ha : okA a = true) : parseB (textL a) = a := by
  have g := okA_good ha
  have na : ∀ c ∈ a.ev.data.toList, 33 ≤ c.toNat := by
    have := (okA_parts ha).2.1
    rw [isName_size, Bool.and_eq_true] at this
    exact name_no this.2
  have hc : cutAt 10 (textL a) = lines a ++ [[]] := cut_lines (lines_no ha)
  have hne : a.ev.data.toList ≠ [] := by
    have := (okA_parts ha).2.1
    rw [isName_size, Bool.and_eq_true] at this
    have h1 := inB_true.1 this.1
    intro e
    have h2 : a.ev.data.toList.length = 0 := by rw [e]; rfl
    rw [Array.length_toList] at h2
    have h3 : a.ev.size = a.ev.data.size := rfl
    omega
  have w0 : wordsOf (headL a) = [sAlert, a.ev.data.toList, Lib.itoa a.ver] := by
    unfold wordsOf headL
    rw [head_cut na g.ver.1]
    simp [hne, itoa_ne g.ver.1, sAlert]
  have fl : ∀ {l : List Int}, Fine l → ∀ n ∈ l, 0 ≤ n := fun h n hn => (h n hn).1
  have w1 : wordsOf (timeL a) = [sTime, Lib.itoa a.tm] := words_row (w := sTime) (ns := [a.tm]) (by decide) (by decide) (fl (fine1 g.tm))
  have w2 : wordsOf (chanceL a) = [sChance, Lib.itoa a.n, Lib.itoa a.of] := words_row (w := sChance) (ns := [a.n, a.of]) (by decide) (by decide) (fun n hn => by
    rcases List.mem_cons.1 hn with rfl | hn
    · exact g.n.1
    · rw [List.mem_singleton.1 hn]; exact g.of.1)
  have w3 : wordsOf (gridL a) = [sGrid, Lib.itoa a.grid] := words_row (w := sGrid) (ns := [a.grid]) (by decide) (by decide) (fl (fine1 g.grid))
  have w4 : (decide (wordB (wordsOf (whereL a)) 0 = sWithdrawn) = a.wd) ∧ cellsB (wordsOf (whereL a)) = a.cells := by
    unfold whereL
    cases hw : a.wd with
    | true =>
      have h := words_row (w := sWithdrawn) (ns := []) (by decide) (by decide) (fun n hn => by cases hn)
      rw [rowL_nil] at h
      rw [if_pos rfl, show ([119, 105, 116, 104, 100, 114, 97, 119, 110] : List UInt8) = sWithdrawn from rfl, h, g.wd hw]
      exact ⟨rfl, rfl⟩
    | false =>
      have h := words_row (w := sCells) (ns := a.cells) (by decide) (by decide) (fl g.cells)
      rw [if_neg (by decide), show ([99, 101, 108, 108, 115] : List UInt8) = sCells from rfl, h]
      refine ⟨by simp [wordB, sCells, sWithdrawn], ?_⟩
      have hm := g.many
      unfold cellsB
      rw [List.drop_succ_cons, List.drop_zero, List.take_of_length_le (by rw [List.length_map]; exact hm), List.map_map]
      exact (List.map_congr_left (fun n hn => natB_itoa (g.cells n hn).1 (g.cells n hn).2)).trans (List.map_id _)
  have w5 : wordsOf (beforeL a) = [sBefore, Lib.itoa a.before] := words_row (w := sBefore) (ns := [a.before]) (by decide) (by decide) (fl (fine1 g.before))
  unfold parseB
  rw [hc]
  have e0 : (lines a ++ [[]]).getD 0 [] = headL a := rfl
  have e1 : (lines a ++ [[]]).getD 1 [] = timeL a := rfl
  have e2 : (lines a ++ [[]]).getD 2 [] = chanceL a := rfl
  have e3 : (lines a ++ [[]]).getD 3 [] = gridL a := rfl
  have e4 : (lines a ++ [[]]).getD 4 [] = whereL a := rfl
  have e5 : (lines a ++ [[]]).getD 5 [] = beforeL a := rfl
  simp only [e0, e1, e2, e3, e4, e5, w0, w1, w2, w3, w4.1, w4.2, w5]
  have d : ∀ {n : Int} {ws : List (List UInt8)} {i : Nat}, ws[i]? = some (Lib.itoa n) → 0 ≤ n ∧ n ≤ 2147483647 → digitsB ws i = n := fun h hn => by
    unfold digitsB
    rw [h]
    exact natB_itoa hn.1 hn.2
  rw [d (i := 2) rfl g.ver, d (i := 1) rfl g.tm, d (i := 1) rfl g.n, d (i := 2) rfl g.of, d (i := 1) rfl g.grid, d (i := 1) rfl g.before]
  rfl
theorem parse_same (s : List UInt8) : parseR parseA s = parseR parseB s := by
  unfold parseR
  split
  · rfl
  · by_cases h : okA (parseA s) ∧ textL (parseA s) = s
    · have e : parseB s = parseA s := by
        have := parseB_text h.1
        rw [h.2] at this
        exact this
      rw [if_pos h, e, if_pos h]
    · have h2 : ¬ (okA (parseB s) ∧ textL (parseB s) = s) := fun k => by
        have e : parseA s = parseB s := by
          have := parseA_text k.1
          rw [k.2] at this
          exact this
        rw [e] at h
        exact h k
      rw [if_neg h, if_neg h2]
end Go.Proofs.YtmpbhngjkbidcaaGreatDoor

/-
  Parse of a text that is too long, on both sides.
-/
namespace Go.Proofs.YtmpbhngjkbidcaaGreatDoor
open Go.RowKit Al
theorem parse_long (f : List UInt8 → Alr) {s : ByteArray} (hs : 65536 < s.size) : parseR f s.data.toList = (Al.zero, 3) := by
  unfold parseR
  rw [if_pos]
  rw [Array.length_toList]
  exact hs
set_option maxRecDepth 100000 in
set_option maxHeartbeats 2000000 in
theorem Parse_long (s : ByteArray) (w : World) (hs : 65536 < s.size) (hm : s.size ≤ maxLen) : Calls Tryz.prog 23 #[.string s] w (OwnT w.heap.size (parseR parseA s.data.toList).1 (parseR parseA s.data.toList).2 w) := by
  rw [parse_long _ hs]
  show Calls _ _ _ _ (OwnT w.heap.size Al.zero 3 w)
  have hs1 : (65536 : Int) < (s.size : Int) := by omega
  have hm2 := hm
  clear hm
  unfold maxLen at hm2
  go_enter Tryz.func23, Tryz.ntmps23
  go_wp2_with fail
  go_step3
  go_wp2_with fail
  rw [Exit.noGoto_ret]
  exact bodyPost_ret (v := .tuple #[.agg #[.string ⟨#[]⟩, .int .i64 0, .int .i64 0, .int .i64 0, .int .i64 0, .int .i64 0, .slice none 0 0, .bool false, .int .i64 0], .int .i64 3]) (by simp [results, Tryz.results23, go_sem]) rfl ⟨none, 0, rfl, zero_row _ _, (by (repeat (first | exact Below.refl _ _ | assumption | refine below_drewN ?_ _ | refine Below.drew ?_ | refine Below.setCell ?_ (by first | omega | (simp; done) | (simp; omega)) _ | refine Below.alloc ?_ (by first | omega | (simp; done) | (simp; omega)) _)))⟩
end Go.Proofs.YtmpbhngjkbidcaaGreatDoor

/-
  The walks of Natural, digits and word.
-/
namespace Go.Proofs.YtmpbhngjkbidcaaGreatDoor
open Go.RowKit Al

def NatT (v : Int) (w : World) (e : Ending) (w' : World) : Prop := (∃ b : Bool, e = .returned (.tuple #[.int .i64 v, .bool b])) ∧ w = w'
theorem valL_lt : ∀ (l : List UInt8) (acc k : Nat), (∀ b ∈ l, 48 ≤ b.toNat ∧ b.toNat ≤ 57) → acc < 10 ^ k → l.foldl (fun n b => n * 10 + (b.toNat - 48)) acc < 10 ^ (k + l.length)
  | [], acc, k, _, h => h
  | b :: l, acc, k, hd, h => by
    have hb := hd b List.mem_cons_self
    have := valL_lt l (acc * 10 + (b.toNat - 48)) (k + 1) (fun c hc => hd c (List.mem_cons_of_mem _ hc)) (by rw [Nat.pow_succ]; omega)
    rw [List.foldl_cons, List.length_cons, show k + (l.length + 1) = k + 1 + l.length by omega]
    exact this
theorem val_next {s : ByteArray} {k : Nat} (h : k < s.size) : valL (s.data.toList.take (k + 1)) = valL (s.data.toList.take k) * 10 + (s[k].toNat - 48) := by
  rw [List.take_succ_eq_append_getElem (by simpa using h), valL_snoc]
  rfl
theorem val_bound {s : ByteArray} {k : Nat} (hk : k ≤ 10) (hd : ∀ b ∈ s.data.toList.take k, 48 ≤ b.toNat ∧ b.toNat ≤ 57) : valL (s.data.toList.take k) ≤ 9999999999 := by
  have h := valL_lt (s.data.toList.take k) 0 0 hd (by decide)
  have hl : (s.data.toList.take k).length ≤ 10 := by rw [List.length_take]; omega
  have h2 : 10 ^ (0 + (s.data.toList.take k).length) ≤ 10 ^ 10 := Nat.pow_le_pow_right (by decide) (by omega)
  have h3 : valL (s.data.toList.take k) < 10 ^ (0 + (s.data.toList.take k).length) := h
  omega
theorem natB_short {l : List UInt8} (h : l.length < 1 ∨ 10 < l.length ∨ (l.headD 0 = 48 ∧ 1 < l.length)) : natB l = 0 := by unfold natB; rw [if_pos h]
theorem natB_all {l : List UInt8} (h : ¬ (l.length < 1 ∨ 10 < l.length ∨ (l.headD 0 = 48 ∧ 1 < l.length))) (hd : ∀ b ∈ l, 48 ≤ b.toNat ∧ b.toNat ≤ 57) : natB l = (valL l : Int) := by
  unfold natB
  rw [if_neg h, if_pos (List.all_eq_true.2 fun b hb => decide_eq_true (hd b hb))]
theorem natB_no {l : List UInt8} {b : UInt8} (hb : b ∈ l) (hd : ¬ (48 ≤ b.toNat ∧ b.toNat ≤ 57)) : natB l = 0 := by
  unfold natB
  split
  · rfl
  · rw [if_neg]
    intro h
    exact hd (of_decide_eq_true (List.all_eq_true.1 h b hb))
theorem headD_get : ∀ {l : List UInt8} (h : 0 < l.length), l.headD 0 = l[0]
  | [], h => absurd h (by simp)
  | _ :: _, _ => rfl
theorem head_at {s : ByteArray} (h : 0 < s.size) : s.data.toList.headD 0 = s[0] := headD_get (by simpa using h)
end Go.Proofs.YtmpbhngjkbidcaaGreatDoor

/-
  The walks of Cut, Words, digits and word.
-/
namespace Go.Proofs.YtmpbhngjkbidcaaGreatDoor
open Go.RowKit Al

/-- Strings in memory of the call's own. -/
def OwnSs (m : Nat) (l : List (List UInt8)) (w : World) (e : Ending) (w' : World) : Prop :=
  ∃ (ws : List ByteArray) (A : Option Addr) (c : Nat), lst ws = l ∧ e = .returned (.slice A ws.length c) ∧ w'.ownsRow w.heap.size 9 1 (.slice A ws.length c) ws.length (strs ws) ∧ (∀ x ∈ ws, x.size ≤ m) ∧ Below w.heap.size w w'
theorem cut_part {l : List UInt8} {f k : Nat} (hf : f ≤ k) (hk : k < l.length) : l.drop f = (l.drop f).take (k - f) ++ l[k] :: l.drop (k + 1) := by
  have h1 : (l.drop f).drop (k - f) = l.drop k := by rw [List.drop_drop]; congr 1; omega
  have h2 : l.drop k = l[k] :: l.drop (k + 1) := List.drop_eq_getElem_cons hk
  rw [← h2, ← h1, List.take_append_drop]
theorem take_next {l : List UInt8} {f k : Nat} (hf : f ≤ k) (hk : k < l.length) : (l.drop f).take (k + 1 - f) = (l.drop f).take (k - f) ++ [l[k]] := by
  rw [show k + 1 - f = (k - f) + 1 by omega, List.take_succ_eq_append_getElem (by rw [List.length_drop]; omega), List.getElem_drop]
  congr 2
  congr 1
  omega
theorem cut_hit {l : List UInt8} {b : UInt8} {f k : Nat} (hf : f ≤ k) (hk : k < l.length) (hb : l[k] = b) (hno : b ∉ (l.drop f).take (k - f)) : cutAt b (l.drop f) = (l.drop f).take (k - f) :: cutAt b (l.drop (k + 1)) := by
  have h := cut_part hf hk
  rw [hb] at h
  have h2 := cutAt_app (l.drop (k + 1)) hno
  rw [← h] at h2
  exact h2
def CuRel (s : ByteArray) (b : UInt8) (w : World) (o f i : Value) (wr : World) : Prop :=
  ∃ (k p : Nat) (ws : List ByteArray) (A : Option Addr) (c : Nat), k ≤ s.size ∧ p ≤ k ∧ ws.length ≤ p ∧ o = .slice A ws.length c ∧ f = .int .i64 p ∧ i = .int .i64 k ∧ Hid (cutAt b s.data.toList = lst ws ++ cutAt b (s.data.toList.drop p)) ∧ Hid (b ∉ (s.data.toList.drop p).take (k - p)) ∧ Hid (∀ x ∈ ws, x.size ≤ s.size) ∧
    Hid (wr.ownsRow w.heap.size 9 1 (.slice A ws.length c) ws.length (strs ws)) ∧ Hid (Below w.heap.size w wr)
def WoRel (w0 : World) (B : Nat) (m : Nat) (zs : List ByteArray) (o i : Value) (wr : World) : Prop :=
  ∃ (k : Nat) (ws : List ByteArray) (A : Option Addr) (c : Nat), k ≤ zs.length ∧ ws.length ≤ k ∧ o = .slice A ws.length c ∧ i = .int .i64 k ∧ Hid (lst ws = (lst (zs.take k)).filter fun p => !p.isEmpty) ∧ Hid (∀ x ∈ ws, x.size ≤ m) ∧ Hid (wr.ownsRow w0.heap.size 9 1 (.slice A ws.length c) ws.length (strs ws)) ∧ Hid (Below B w0 wr)
theorem lst_take {zs : List ByteArray} {k : Nat} (h : k < zs.length) : lst (zs.take (k + 1)) = lst (zs.take k) ++ [zs[k].data.toList] := by
  rw [List.take_succ_eq_append_getElem h, lst_snoc]
end Go.Proofs.YtmpbhngjkbidcaaGreatDoor

/-
  A region that draws its order, by an invariant: what is done is said by D; each operation is shown once, in whatever state it may come up.
-/
namespace Go.Proofs.YtmpbhngjkbidcaaGreatDoor
open Go.RowKit

def updD (D : Nat → Bool) (i : Nat) : Nat → Bool := fun j => if j = i then true else D j
def listD (s : Array Bool) : Nat → Bool := fun j => s.getD j false
theorem listD_set {s : Array Bool} {i : Nat} (hi : i < s.size) : listD (s.setIfInBounds i true) = updD (listD s) i := by
  funext j
  unfold listD updD
  by_cases h : j = i
  · subst h
    rw [if_pos rfl]
    simp [Array.getD, hi]
  · rw [if_neg h]
    by_cases hj : j < s.size
    · simp [Array.getD, hj, Ne.symm h]
    · simp [Array.getD, hj]
/-- How many are not done. -/
def openN (s : Array Bool) : Nat := s.toList.countP fun b => !b
theorem openN_set {s : Array Bool} {i : Nat} (hi : i < s.size) (h : s.getD i true = false) : openN (s.setIfInBounds i true) < openN s := by
  obtain ⟨l⟩ := s
  have hi' : i < l.length := hi
  have hx : l[i] = false := by simpa [Array.getD, hi'] using h
  have e1 : l = l.take i ++ l[i] :: l.drop (i + 1) := by rw [← List.drop_eq_getElem_cons hi', List.take_append_drop]
  have e2 : l.set i true = l.take i ++ true :: l.drop (i + 1) := by rw [List.set_eq_take_append_cons_drop, if_pos hi']
  unfold openN
  rw [Array.toList_setIfInBounds]
  show List.countP (fun b => !b) (l.set i true) < List.countP (fun b => !b) l
  rw [e2]
  have e3 : List.countP (fun b => !b) l = List.countP (fun b => !b) (l.take i ++ l[i] :: l.drop (i + 1)) := congrArg _ e1
  rw [e3, List.countP_append, List.countP_append, List.countP_cons, List.countP_cons, hx]
  simp
theorem openN_zero {s : Array Bool} (h : openN s = 0) : ∀ i, s.getD i true = true := by
  intro i
  have h1 := List.countP_eq_zero.1 h
  by_cases hi : i < s.size
  · have h2 := h1 s[i] (by simp)
    simpa [Array.getD, hi] using h2
  · simp [Array.getD, hi]
/-- Every binding edge leads back. -/
def backB (ops : Array Oper) : Bool := (List.range ops.size).all fun i => ((ops[i]?).map fun o => o.after.all fun e => !Region.binds .any e || decide (e.on < i)).getD true
theorem wp_region_inv {P : Program} {ops : Array Oper} {Q : Exit → Act → World → Prop} {a : Act} {w : World} {id : Nat} (Inv : (Nat → Bool) → Act → World → Prop) (hm : P.follows .mixedOrders = true) (hback : backB ops = true)
    (h0 : Inv (fun _ => false) a { w with drawn := w.drawn + 1 })
    (hstep : ∀ D a w i o, ops[i]? = some o → D i = false → (∀ e ∈ o.after, Region.binds .any e = true → D e.on = true) → Inv D a w → wpOp P ops Q i (fun a' w' => Inv (updD D i) a' w') a w)
    (hend : ∀ D a w, (∀ i, i < ops.size → D i = true) → Inv D a w → Q .normal a w) : (Code.region id ops true).wp P Q a w := by
  refine wp_region_any hm ?_
  have key : ∀ (f : Nat) (s : Array Bool) (a : Act) (w : World), s.size = ops.size → openN s ≤ f → Inv (listD s) a w → wpAny P .any ops Q f s a w := by
    have hnil : ∀ (s : Array Bool) a w, s.size = ops.size → Region.ready .any ops s = [] → Inv (listD s) a w → Q .normal a w := by
      intro s a w hs hr hI
      refine hend _ a w (fun i => ?_) hI
      induction i using Nat.strongRecOn with
      | ind i ih =>
        intro hi
        refine Decidable.byContradiction fun hne => ?_
        have hmem : i ∈ Region.ready .any ops s := by
          unfold Region.ready
          rw [List.mem_filter]
          refine ⟨List.mem_range.2 hi, ?_⟩
          have hb := List.all_eq_true.1 hback i (List.mem_range.2 hi)
          have ho : ops[i]? = some ops[i] := Array.getElem?_eq_getElem hi
          rw [ho] at hb ⊢
          simp only [Option.map_some, Option.getD_some] at hb ⊢
          have hsi : s.getD i true = false := by
            have hne' : listD s i = false := by simpa using hne
            unfold listD at hne'
            simpa [Array.getD, hs, hi] using hne'
          rw [hsi, Bool.not_false, Bool.true_and]
          refine Array.all_eq_true.2 fun j hj => ?_
          have h1 := Array.all_eq_true.1 hb j hj
          cases hbd : Region.binds .any (ops[i].after[j]) with
          | false => rfl
          | true =>
            rw [hbd] at h1
            have h2 : (ops[i].after[j]).on < i := by simpa using h1
            have h3 := ih _ h2 (Nat.lt_trans h2 hi)
            simpa [listD] using h3
        rw [hr] at hmem
        cases hmem
    intro f
    induction f with
    | zero =>
      intro s a w hs hf hI
      have hr : Region.ready .any ops s = [] := by
        unfold Region.ready
        refine List.filter_eq_nil_iff.2 fun i _ => ?_
        rw [openN_zero (Nat.le_zero.1 hf) i]
        simp
      exact ⟨hr, hnil s a w hs hr hI⟩
    | succ f ih =>
      intro s a w hs hf hI
      refine ⟨fun hr => hnil s a w hs hr hI, fun i hi => ?_⟩
      unfold Region.ready at hi
      rw [List.mem_filter] at hi
      obtain ⟨h1, h2⟩ := hi
      have hlt := List.mem_range.1 h1
      have ho : ops[i]? = some ops[i] := Array.getElem?_eq_getElem hlt
      rw [ho] at h2
      simp only [Option.map_some, Option.getD_some, Bool.and_eq_true] at h2
      have hsi : s.getD i true = false := by simpa using h2.1
      have hD : listD s i = false := by unfold listD; simpa [Array.getD, hs, hlt] using hsi
      refine wpOp_mono (fun a' w' h' => ?_) (hstep (listD s) a w i ops[i] ho hD (fun e he hb => ?_) hI)
      · have his : i < s.size := by rw [hs]; exact hlt
        refine ih _ a' w' (by simpa using hs) (by have := openN_set his hsi; omega) ?_
        rw [listD_set his]
        exact h'
      · obtain ⟨j, hj, rfl⟩ := Array.mem_iff_getElem.1 he
        have h3 := Array.all_eq_true.1 h2.2 j hj
        rw [hb] at h3
        simpa [listD] using h3
  refine key ops.size _ a _ (by simp) ?_ ?_
  · unfold openN
    refine Nat.le_trans List.countP_le_length (by simp)
  · have e : listD (Array.replicate ops.size false) = fun _ => false := by
      funext j
      unfold listD
      by_cases hj : j < ops.size
      · simp [Array.getD, hj]
      · simp [Array.getD, hj]
    rw [e]
    exact h0
/-- The same, with what is done known to be closed under what binds. -/
theorem wp_region_inv2 {P : Program} {ops : Array Oper} {Q : Exit → Act → World → Prop} {a : Act} {w : World} {id : Nat} (Inv : (Nat → Bool) → Act → World → Prop) (hm : P.follows .mixedOrders = true) (hback : backB ops = true)
    (h0 : Inv (fun _ => false) a { w with drawn := w.drawn + 1 })
    (hstep : ∀ D a w i o, ops[i]? = some o → D i = false → (∀ j p, ops[j]? = some p → D j = true → ∀ e ∈ p.after, Region.binds .any e = true → D e.on = true) → (∀ e ∈ o.after, Region.binds .any e = true → D e.on = true) → Inv D a w → wpOp P ops Q i (fun a' w' => Inv (updD D i) a' w') a w)
    (hend : ∀ D a w, (∀ i, i < ops.size → D i = true) → Inv D a w → Q .normal a w) : (Code.region id ops true).wp P Q a w := by
  refine wp_region_inv (Inv := fun D a w => Inv D a w ∧ ∀ j p, ops[j]? = some p → D j = true → ∀ e ∈ p.after, Region.binds .any e = true → D e.on = true) hm hback ⟨h0, fun _ _ _ h => (by cases h)⟩ ?_ (fun D a w hD h => hend D a w hD h.1)
  intro D a w i o ho hD hdep h
  refine wpOp_mono (fun a' w' hI => ⟨hI, fun j p hp hj e he hb => ?_⟩) (hstep D a w i o ho hD h.2 hdep h.1)
  unfold updD at hj ⊢
  by_cases hei : e.on = i
  · rw [if_pos hei]
  · rw [if_neg hei]
    by_cases hji : j = i
    · subst hji
      rw [ho] at hp
      cases hp
      exact hdep e he hb
    · rw [if_neg hji] at hj
      exact h.2 j p hp hj e he hb
/-- What comes behind an operation, as what comes behind a list of operations. -/
def exK (K : Act → World → Prop) (Q : Exit → Act → World → Prop) : Exit → Act → World → Prop
  | .normal, a, w => K a w
  | .panic c, a, w => Q (.panic c) a w
  | .outgrown, a, w => Q .outgrown a w
  | .ret, a, w => Q .ret a w
  | .exit id, a, w => Q (.exit id) a w
  | .goto t, a, w => Q (.goto t) a w
theorem wpOp_list {P : Program} {ops : Array Oper} {Q : Exit → Act → World → Prop} {i : Nat} {K : Act → World → Prop} {a : Act} {w : World} {o : Oper} (ho : ops[i]? = some o) (hg : o.guard = none) (h : wpList P ops (exK K Q) [o] a w) : wpOp P ops Q i K a w := by
  unfold wpOp
  rw [ho]
  have hw : Region.wanted o (yielded ops a.tmps) = true := by simp [Region.wanted, hg]
  unfold wpList at h
  simp only [hw, if_true] at h ⊢
  rcases h with h | ⟨h1, h2⟩
  · refine .inl ?_
    unfold Oper.wp Oper.upon at h ⊢
    exact h
  · exact .inr ⟨h1, h2⟩
theorem fixV {v : Nat → Value} {k : Nat} {x : Value} (h : v k = x) : ∃ u : Nat → Value, v = fun j => if j = k then x else u j :=
  ⟨v, by funext j; by_cases hj : j = k <;> simp [hj, h]⟩
end Go.Proofs.YtmpbhngjkbidcaaGreatDoor
