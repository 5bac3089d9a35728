/-
  Plain: what the program's Parse reads: lines, words and numbers; of the text of a valid alert it is that alert.
-/
import Derived.Test.YtohfofecbdfkgaaGreatDoorPr
import Derived.Test.YtohfofecbdfkgaaGreatDoorU22
import Derived.Lib.AtoiAll
import Derived.Lib.Strings
namespace Go.Proofs.YtohfofecbdfkgaaGreatDoor
open Al

theorem cutAt_row : ∀ {ns : List Int} {w : List UInt8}, (32 : UInt8) ∉ w → (∀ n ∈ ns, 0 ≤ n) → cutAt 32 (rowL w ns) = w :: ns.map Lib.itoa
  | [], w, hw, _ => by rw [rowL_nil, cutAt_no hw]; rfl
  | n :: ns, w, hw, hn => by
    have e : rowL w (n :: ns) = w ++ 32 :: rowL (Lib.itoa n) ns := by simp [rowL]
    rw [e, cutAt_app _ hw, cutAt_row (itoa_no (hn n List.mem_cons_self) (by decide)) (fun m hm => hn m (List.mem_cons_of_mem _ hm))]
    rfl
theorem fold_ge (l : List UInt8) : ∀ acc : Nat, acc ≤ l.foldl (fun n b => n * 10 + (b.toNat - 48)) acc := by
  induction l with
  | nil => intro acc; exact Nat.le_refl _
  | cons b l ih => intro acc; have := ih (acc * 10 + (b.toNat - 48)); rw [List.foldl_cons]; omega
theorem parse_digits : ∀ (l : List UInt8) (acc : Nat), (∀ b ∈ l, 48 ≤ b.toNat ∧ b.toNat ≤ 57) → l.foldl (fun n b => n * 10 + (b.toNat - 48)) acc ≤ 2147483647 → Lib.parseUint10 acc l = .ok (l.foldl (fun n b => n * 10 + (b.toNat - 48)) acc)
  | [], acc, _, _ => rfl
  | b :: l, acc, hd, hs => by
    have h0 := fold_ge (b :: l) acc
    have hb := hd b List.mem_cons_self
    have h1 := fold_ge l (acc * 10 + (b.toNat - 48))
    rw [List.foldl_cons] at hs h0 ⊢
    rw [Lib.parseUint10, if_pos hb, if_neg (by omega), if_neg (by omega)]
    exact parse_digits l _ (fun c hc => hd c (List.mem_cons_of_mem _ hc)) hs
theorem atoi_itoa {n : Int} (h0 : 0 ≤ n) (h1 : n ≤ 2147483647) : Lib.atoiAll (Lib.itoa n) = .ok n := by
  obtain ⟨hv, hd⟩ := dec_val n.toNat
  rw [itoa_dec h0]
  have hp := parse_digits (Lib.decDigits n.toNat) 0 hd (by have : valL (Lib.decDigits n.toNat) ≤ 2147483647 := by omega
                                                           exact this)
  have hv2 : (Lib.decDigits n.toNat).foldl (fun n b => n * 10 + (b.toNat - 48)) 0 = n.toNat := hv
  rw [hv2] at hp
  cases hl : Lib.decDigits n.toNat with
  | nil =>
    have := Lib.decDigits_length n.toNat
    have h2 := Lib.nDigits_pos n.toNat
    rw [hl] at this
    simp at this
    omega
  | cons c r =>
    rw [hl] at hp
    have hc := hd c (by rw [hl]; exact List.mem_cons_self)
    have c1 : ¬ c.toNat = 45 := by omega
    have c2 : ¬ (c.toNat = 43 ∨ c.toNat = 45) := by omega
    unfold Lib.atoiAll
    simp only [if_neg c2, Lib.parseMag, if_neg (List.cons_ne_nil c r), hp]
    rw [if_neg (by omega), if_neg (by omega), if_neg c1]
    exact congrArg _ (Int.toNat_of_nonneg h0)
theorem numsOf_itoa : ∀ {ns : List Int}, (∀ n ∈ ns, 0 ≤ n ∧ n ≤ 2147483647) → numsOf (ns.map Lib.itoa) = some ns
  | [], _ => rfl
  | n :: ns, h => by
    obtain ⟨h0, h1⟩ := h n List.mem_cons_self
    rw [List.map_cons, numsOf, atoi_itoa h0 h1, numsOf_itoa (fun m hm => h m (List.mem_cons_of_mem _ hm))]
    rfl
theorem trim_nl (l : List UInt8) : Lib.trimSuffix (l ++ [10]) [10] = l := by
  unfold Lib.trimSuffix
  have h : Lib.hasSuffix (l ++ [10]) [10] = true := by simp [Lib.hasSuffix]
  rw [if_pos h]
  simp
/-- A line that is a word and numbers. -/
theorem lineA_row (a : Alr) {w : List UInt8} {ns : List Int} (hw : (32 : UInt8) ∉ w) (hs : skipN w = 1) (hn : ∀ n ∈ ns, 0 ≤ n ∧ n ≤ 2147483647) : lineA a (rowL w ns ++ [10]) = some (stepA a w (w :: ns.map Lib.itoa) ns) := by
  unfold lineA lineP
  rw [trim_nl, cutAt_row hw (fun n h => (hn n h).1), List.headD_cons, hs, List.drop_succ_cons, List.drop_zero, numsOf_itoa hn]
  rfl
theorem head_cut {ev : List UInt8} (h : ∀ c ∈ ev, 33 ≤ c.toNat) {v : Int} (hv : 0 ≤ v) : cutAt 32 (rowL ([97, 108, 101, 114, 116, 32] ++ ev) [v]) = [sAlert, ev, Lib.itoa v] := by
  have e : rowL ([97, 108, 101, 114, 116, 32] ++ ev) [v] = sAlert ++ 32 :: rowL ev [v] := by simp [rowL, sAlert]
  have h32 : (32 : UInt8) ∉ ev := fun hm => absurd (h _ hm) (by decide)
  rw [e, cutAt_app _ (by decide), cutAt_row h32 (fun n hn => by rw [List.mem_singleton.1 hn]; exact hv)]
  rfl
theorem row_no {w : List UInt8} (hw : (10 : UInt8) ∉ w) {l : List Int} (hl : Fine l) : (10 : UInt8) ∉ rowL w l := by
  intro h
  rcases List.mem_append.1 h with h | h
  · exact hw h
  · exact flat_no (by decide) hl h
theorem lines_no {a : Alr} (ha : okA a = true) : ∀ l ∈ lines a, (10 : UInt8) ∉ l := by
  have g := okA_good ha
  have na : ∀ c ∈ a.ev.data.toList, 33 ≤ c.toNat := by
    have := (okA_parts ha).2.1
    rw [isName_size, Bool.and_eq_true] at this
    exact name_no this.2
  have f1 : ∀ {n : Int}, (0 ≤ n ∧ n ≤ 2147483647) → Fine [n] := fun h => fine1 h
  intro l hl
  simp only [lines, List.mem_cons, List.not_mem_nil, or_false] at hl
  rcases hl with rfl | rfl | rfl | rfl | rfl | rfl | rfl
  · refine row_no (fun h => ?_) (f1 g.ver)
    rcases List.mem_append.1 h with h | h
    · exact absurd h (by decide)
    · exact absurd (na _ h) (by decide)
  · exact row_no (by decide) (f1 g.tm)
  · refine row_no (by decide) (fun n hn => ?_)
    rcases List.mem_cons.1 hn with rfl | hn
    · exact g.n
    · rw [List.mem_singleton.1 hn]; exact g.of
  · exact row_no (by decide) (f1 g.grid)
  · exact where_no g
  · exact row_no (by decide) (f1 g.before)
  · decide
theorem runA_some {a b : Alr} {l : List UInt8} {r : List (List UInt8)} (h : lineA a l = some b) : runA a (l :: r) = runA b r := by rw [runA, h]
theorem parseA_text {a : Alr} (ha : okA a = true) : parseA (textL a) = a := by
  have g := okA_good ha
  have na : ∀ c ∈ a.ev.data.toList, 33 ≤ c.toNat := by
    have := (okA_parts ha).2.1
    rw [isName_size, Bool.and_eq_true] at this
    exact name_no this.2
  have hl : linesOf (textL a) = (lines a).map fun l => l ++ [10] := linesOf_lines (lines_no ha)
  have h1 : lineA Al.zero (headL a ++ [10]) = some { Al.zero with ver := a.ver, ev := a.ev } := by
    unfold lineA lineP
    rw [trim_nl, headL, head_cut na g.ver.1, List.headD_cons, show skipN sAlert = 2 from rfl, List.drop_succ_cons, List.drop_succ_cons, List.drop_zero, show [Lib.itoa a.ver] = [a.ver].map Lib.itoa from rfl, numsOf_itoa (fine1 g.ver)]
    rfl
  have h2 : ∀ b : Alr, lineA b (timeL a ++ [10]) = some { b with tm := a.tm } := fun b => lineA_row b (w := sTime) (ns := [a.tm]) (by decide) rfl (fine1 g.tm)
  have h3 : ∀ b : Alr, lineA b (chanceL a ++ [10]) = some { b with n := a.n, of := a.of } := fun b => lineA_row b (w := sChance) (ns := [a.n, a.of]) (by decide) rfl (fun n hn => by
    rcases List.mem_cons.1 hn with rfl | hn
    · exact g.n
    · rw [List.mem_singleton.1 hn]; exact g.of)
  have h4 : ∀ b : Alr, lineA b (gridL a ++ [10]) = some { b with grid := a.grid } := fun b => lineA_row b (w := sGrid) (ns := [a.grid]) (by decide) rfl (fine1 g.grid)
  have h5 : ∀ b : Alr, b.wd = false → b.cells = [] → lineA b (whereL a ++ [10]) = some { b with wd := a.wd, cells := a.cells } := fun b hb hc => by
    cases hw : a.wd with
    | true =>
      have h := lineA_row b (w := sWithdrawn) (ns := []) (by decide) rfl (fun n hn => by cases hn)
      rw [rowL_nil] at h
      rw [g.wd hw, ← hc]
      unfold whereL
      rw [hw]
      exact h
    | false =>
      have h := lineA_row b (w := sCells) (ns := a.cells) (by decide) rfl g.cells
      rw [← hb]
      unfold whereL
      rw [hw]
      exact h
  have h6 : ∀ b : Alr, lineA b (beforeL a ++ [10]) = some { b with before := a.before } := fun b => lineA_row b (w := sBefore) (ns := [a.before]) (by decide) rfl (fine1 g.before)
  have h7 : ∀ b : Alr, lineA b (endL ++ [10]) = some b := fun b => by
    have h := lineA_row b (w := endL) (ns := []) (by decide) rfl (fun n hn => by cases hn)
    rw [rowL_nil] at h
    exact h
  unfold parseA
  rw [hl]
  simp only [lines, List.map_cons, List.map_nil]
  rw [runA_some h1, runA_some (h2 _), runA_some (h3 _), runA_some (h4 _), runA_some (h5 _ rfl rfl), runA_some (h6 _), runA_some (h7 _)]
  rfl
end Go.Proofs.YtohfofecbdfkgaaGreatDoor
