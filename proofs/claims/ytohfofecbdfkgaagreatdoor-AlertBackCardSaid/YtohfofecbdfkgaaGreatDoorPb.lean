/-
  Plain: what the specification's Parse reads; of the text of a valid alert it is that alert.
-/
import Derived.Test.YtohfofecbdfkgaaGreatDoorPq
namespace Go.Proofs.YtohfofecbdfkgaaGreatDoor
open Al

/-- The words of a text. -/
def wordsOf (l : List UInt8) : List (List UInt8) := (cutAt 32 l).filter fun p => !p.isEmpty
/-- The number that digits without a leading zero say, at most ten of them; 0 if they say none. -/
def natB (l : List UInt8) : Int := if l.length < 1 ∨ 10 < l.length ∨ (l.headD 0 = 48 ∧ 1 < l.length) then 0 else if l.all (fun b => decide (48 ≤ b.toNat ∧ b.toNat ≤ 57)) then (valL l : Int) else 0
def digitsB (ws : List (List UInt8)) (i : Nat) : Int := match ws[i]? with
  | some w => natB w
  | none => 0
def wordB (ws : List (List UInt8)) (i : Nat) : List UInt8 := ws.getD i []
def cellsB (ws : List (List UInt8)) : List Int := ((ws.drop 1).take 384).map natB
def parseB (s : List UInt8) : Alr :=
  let l := fun i => wordsOf ((cutAt 10 s).getD i [])
  ⟨⟨(wordB (l 0) 1).toArray⟩, digitsB (l 0) 2, digitsB (l 1) 1, digitsB (l 2) 1, digitsB (l 2) 2, digitsB (l 3) 1, cellsB (l 4), decide (wordB (l 4) 0 = sWithdrawn), digitsB (l 5) 1⟩
theorem itoa_ne {n : Int} (h : 0 ≤ n) : Lib.itoa n ≠ [] := by
  rw [itoa_dec h]
  intro e
  have := Lib.decDigits_length n.toNat
  have h2 := Lib.nDigits_pos n.toNat
  rw [e] at this
  simp at this
  omega
theorem nDigits_le : ∀ (k u : Nat), u < 10 ^ (k + 1) → Lib.nDigits u ≤ k + 1
  | 0, u, h => by rw [Lib.nDigits_small (by omega)]; exact Nat.le_refl _
  | k + 1, u, h => by
    by_cases h10 : u < 10
    · rw [Lib.nDigits_small h10]; omega
    · rw [Lib.nDigits_big h10]
      have := nDigits_le k (u / 10) (by rw [Nat.pow_succ] at h; omega)
      omega
theorem dec_head (u : Nat) (h : 1 ≤ u) : (Lib.decDigits u).headD 0 ≠ 48 := by
  induction u using Nat.strongRecOn with
  | ind u ih =>
    by_cases h10 : u < 10
    · rw [Lib.decDigits_one h10, List.headD_cons]
      intro e
      have := congrArg UInt8.toNat e
      rw [digit_nat h10] at this
      simp at this
      omega
    · rw [Lib.decDigits, dif_neg h10]
      have h1 := ih (u / 10) (by omega) (by omega)
      cases hd : Lib.decDigits (u / 10) with
      | nil =>
        have := Lib.decDigits_length (u / 10)
        have h2 := Lib.nDigits_pos (u / 10)
        rw [hd] at this
        simp at this
        omega
      | cons c r =>
        rw [hd] at h1
        simpa using h1
theorem natB_itoa {n : Int} (h0 : 0 ≤ n) (h1 : n ≤ 2147483647) : natB (Lib.itoa n) = n := by
  obtain ⟨hv, hd⟩ := dec_val n.toNat
  have hl : (Lib.decDigits n.toNat).length = Lib.nDigits n.toNat := Lib.decDigits_length _
  have hp := Lib.nDigits_pos n.toNat
  have h10 := nDigits_le 9 n.toNat (by omega)
  rw [itoa_dec h0]
  unfold natB
  rw [if_neg, if_pos, hv]
  · exact Int.toNat_of_nonneg h0
  · exact List.all_eq_true.2 fun b hb => decide_eq_true (hd b hb)
  · rintro (h | h | ⟨h, h2⟩)
    · omega
    · omega
    · by_cases hz : n.toNat < 10
      · rw [Lib.decDigits_one hz] at h2
        simp at h2
      · exact dec_head _ (by omega) h
theorem words_row {w : List UInt8} {ns : List Int} (hw : (32 : UInt8) ∉ w) (hne : w ≠ []) (hn : ∀ n ∈ ns, 0 ≤ n) : wordsOf (rowL w ns) = w :: ns.map Lib.itoa := by
  unfold wordsOf
  rw [cutAt_row hw hn, List.filter_cons, if_pos (by simpa using hne)]
  congr 1
  refine List.filter_eq_self.2 fun p hp => ?_
  obtain ⟨n, hm, rfl⟩ := List.mem_map.1 hp
  simpa using itoa_ne (hn n hm)
theorem cut_lines : ∀ {ls : List (List UInt8)}, (∀ l ∈ ls, (10 : UInt8) ∉ l) → cutAt 10 (ls.flatMap fun l => l ++ [10]) = ls ++ [[]]
  | [], _ => rfl
  | l :: ls, h => by
    have e : ((l :: ls).flatMap fun l => l ++ [10]) = l ++ 10 :: (ls.flatMap fun l => l ++ [10]) := by simp
    rw [e, cutAt_app _ (h l List.mem_cons_self), cut_lines (fun x hx => h x (List.mem_cons_of_mem _ hx))]
    rfl
theorem parseB_text {a : Alr} (ha : okA a = true) : parseB (textL a) = a := by
  have g := okA_good ha
  have na : ∀ c ∈ a.ev.data.toList, 33 ≤ c.toNat := by
    have := (okA_parts ha).2.1
    rw [isName_size, Bool.and_eq_true] at this
    exact name_no this.2
  have hc : cutAt 10 (textL a) = lines a ++ [[]] := cut_lines (lines_no ha)
  have hne : a.ev.data.toList ≠ [] := by
    have := (okA_parts ha).2.1
    rw [isName_size, Bool.and_eq_true] at this
    have h1 := inB_true.1 this.1
    intro e
    have h2 : a.ev.data.toList.length = 0 := by rw [e]; rfl
    rw [Array.length_toList] at h2
    have h3 : a.ev.size = a.ev.data.size := rfl
    omega
  have w0 : wordsOf (headL a) = [sAlert, a.ev.data.toList, Lib.itoa a.ver] := by
    unfold wordsOf headL
    rw [head_cut na g.ver.1]
    simp [hne, itoa_ne g.ver.1, sAlert]
  have fl : ∀ {l : List Int}, Fine l → ∀ n ∈ l, 0 ≤ n := fun h n hn => (h n hn).1
  have w1 : wordsOf (timeL a) = [sTime, Lib.itoa a.tm] := words_row (w := sTime) (ns := [a.tm]) (by decide) (by decide) (fl (fine1 g.tm))
  have w2 : wordsOf (chanceL a) = [sChance, Lib.itoa a.n, Lib.itoa a.of] := words_row (w := sChance) (ns := [a.n, a.of]) (by decide) (by decide) (fun n hn => by
    rcases List.mem_cons.1 hn with rfl | hn
    · exact g.n.1
    · rw [List.mem_singleton.1 hn]; exact g.of.1)
  have w3 : wordsOf (gridL a) = [sGrid, Lib.itoa a.grid] := words_row (w := sGrid) (ns := [a.grid]) (by decide) (by decide) (fl (fine1 g.grid))
  have w4 : (decide (wordB (wordsOf (whereL a)) 0 = sWithdrawn) = a.wd) ∧ cellsB (wordsOf (whereL a)) = a.cells := by
    unfold whereL
    cases hw : a.wd with
    | true =>
      have h := words_row (w := sWithdrawn) (ns := []) (by decide) (by decide) (fun n hn => by cases hn)
      rw [rowL_nil] at h
      rw [if_pos rfl, show ([119, 105, 116, 104, 100, 114, 97, 119, 110] : List UInt8) = sWithdrawn from rfl, h, g.wd hw]
      exact ⟨rfl, rfl⟩
    | false =>
      have h := words_row (w := sCells) (ns := a.cells) (by decide) (by decide) (fl g.cells)
      rw [if_neg (by decide), show ([99, 101, 108, 108, 115] : List UInt8) = sCells from rfl, h]
      refine ⟨by simp [wordB, sCells, sWithdrawn], ?_⟩
      have hm := g.many
      unfold cellsB
      rw [List.drop_succ_cons, List.drop_zero, List.take_of_length_le (by rw [List.length_map]; exact hm), List.map_map]
      exact (List.map_congr_left (fun n hn => natB_itoa (g.cells n hn).1 (g.cells n hn).2)).trans (List.map_id _)
  have w5 : wordsOf (beforeL a) = [sBefore, Lib.itoa a.before] := words_row (w := sBefore) (ns := [a.before]) (by decide) (by decide) (fl (fine1 g.before))
  unfold parseB
  rw [hc]
  have e0 : (lines a ++ [[]]).getD 0 [] = headL a := rfl
  have e1 : (lines a ++ [[]]).getD 1 [] = timeL a := rfl
  have e2 : (lines a ++ [[]]).getD 2 [] = chanceL a := rfl
  have e3 : (lines a ++ [[]]).getD 3 [] = gridL a := rfl
  have e4 : (lines a ++ [[]]).getD 4 [] = whereL a := rfl
  have e5 : (lines a ++ [[]]).getD 5 [] = beforeL a := rfl
  simp only [e0, e1, e2, e3, e4, e5, w0, w1, w2, w3, w4.1, w4.2, w5]
  have d : ∀ {n : Int} {ws : List (List UInt8)} {i : Nat}, ws[i]? = some (Lib.itoa n) → 0 ≤ n ∧ n ≤ 2147483647 → digitsB ws i = n := fun h hn => by
    unfold digitsB
    rw [h]
    exact natB_itoa hn.1 hn.2
  rw [d (i := 2) rfl g.ver, d (i := 1) rfl g.tm, d (i := 1) rfl g.n, d (i := 2) rfl g.of, d (i := 1) rfl g.grid, d (i := 1) rfl g.before]
  rfl
theorem parse_same (s : List UInt8) : parseR parseA s = parseR parseB s := by
  unfold parseR
  split
  · rfl
  · by_cases h : okA (parseA s) ∧ textL (parseA s) = s
    · have e : parseB s = parseA s := by
        have := parseB_text h.1
        rw [h.2] at this
        exact this
      rw [if_pos h, e, if_pos h]
    · have h2 : ¬ (okA (parseB s) ∧ textL (parseB s) = s) := fun k => by
        have e : parseA s = parseB s := by
          have := parseA_text k.1
          rw [k.2] at this
          exact this
        rw [e] at h
        exact h k
      rw [if_neg h, if_neg h2]
end Go.Proofs.YtohfofecbdfkgaaGreatDoor
