/-
  Plain: forks: which versions of an event have two alerts, and who signed two.
-/
import Derived.Test.YtohfofecbdfkgaaGreatDoorU22
import Derived.Test.YtohfofecbdfkgaaGreatDoorU21
import Derived.Test.YtohfofecbdfkgaaGreatDoorU17
namespace Go.Proofs.YtohfofecbdfkgaaGreatDoor
open Go.RowKit Al

/-- Is something so of number i and one of the first j? -/
def pairIn (p : It → It → Bool) (L : List It) (i j : Nat) : Bool := (List.range j).any fun k => match L[i]?, L[k]? with
  | some x, some y => p x y
  | _, _ => false
/-- Is something so of two of the first i? -/
def pairAny (p : It → It → Bool) (L : List It) : Nat → Bool
  | 0 => false
  | i + 1 => pairAny p L i || pairIn p L i i
theorem pairIn_next {p : It → It → Bool} {L : List It} {i j : Nat} (hi : i < L.length) (hj : j < L.length) : pairIn p L i (j + 1) = (pairIn p L i j || p L[i] L[j]) := by
  unfold pairIn
  rw [List.range_succ, List.any_append]
  simp [List.getElem?_eq_getElem hi, List.getElem?_eq_getElem hj]
theorem pairIn_iff {p : It → It → Bool} {L : List It} {i j : Nat} (hi : i < L.length) (hj : j ≤ L.length) : pairIn p L i j = true ↔ ∃ k, ∃ h : k < L.length, k < j ∧ p L[i] L[k] = true := by
  unfold pairIn
  rw [List.any_eq_true]
  constructor
  · rintro ⟨k, hk, h⟩
    have hk2 : k < j := List.mem_range.1 hk
    have hk3 : k < L.length := by omega
    rw [List.getElem?_eq_getElem hi, List.getElem?_eq_getElem hk3] at h
    exact ⟨k, hk3, hk2, h⟩
  · rintro ⟨k, hk3, hk2, h⟩
    refine ⟨k, List.mem_range.2 hk2, ?_⟩
    rw [List.getElem?_eq_getElem hi, List.getElem?_eq_getElem hk3]
    exact h
theorem pairAny_iff {p : It → It → Bool} {L : List It} : ∀ {i : Nat}, i ≤ L.length → (pairAny p L i = true ↔ ∃ a, ∃ ha : a < L.length, ∃ k, ∃ hk : k < L.length, a < i ∧ k < a ∧ p L[a] L[k] = true)
  | 0, _ => by
    constructor
    · intro h; cases h
    · rintro ⟨a, _, _, _, h, _⟩; omega
  | i + 1, hi => by
    have hi2 : i < L.length := by omega
    unfold pairAny
    rw [Bool.or_eq_true, pairAny_iff (by omega), pairIn_iff hi2 (by omega)]
    constructor
    · rintro (⟨a, ha, k, hk, h1, h2, h3⟩ | ⟨k, hk, h2, h3⟩)
      · exact ⟨a, ha, k, hk, by omega, h2, h3⟩
      · exact ⟨i, hi2, k, hk, by omega, h2, h3⟩
    · rintro ⟨a, ha, k, hk, h1, h2, h3⟩
      by_cases e : a = i
      · subst e
        exact .inr ⟨k, hk, h2, h3⟩
      · exact .inl ⟨a, ha, k, hk, by omega, h2, h3⟩
theorem pairAny_mem {p : It → It → Bool} {L : List It} (hs : ∀ x y, p x y = p y x) (hr : ∀ x, p x x = false) : pairAny p L L.length = true ↔ ∃ x ∈ L, ∃ y ∈ L, p x y = true := by
  rw [pairAny_iff (Nat.le_refl _)]
  constructor
  · rintro ⟨a, ha, k, hk, _, _, h⟩
    exact ⟨_, List.getElem_mem ha, _, List.getElem_mem hk, h⟩
  · rintro ⟨x, hx, y, hy, h⟩
    obtain ⟨a, ha, rfl⟩ := List.getElem_of_mem hx
    obtain ⟨k, hk, rfl⟩ := List.getElem_of_mem hy
    rcases Nat.lt_trichotomy a k with e | e | e
    · exact ⟨k, hk, a, ha, hk, e, by rw [hs]; exact h⟩
    · subst e
      rw [hr] at h
      cases h
    · exact ⟨a, ha, k, hk, ha, e, h⟩
theorem data_inj {m n : ByteArray} (h : m.data.toList = n.data.toList) : m = n := by
  cases m
  cases n
  congr
  exact Array.toList_inj.1 h
theorem bytes_inj {m n : ByteArray} (h : m.toList = n.toList) : m = n := data_inj (by rw [← Lib.toList_data, ← Lib.toList_data, h])
theorem sameB_iff {a b : Alr} : sameB a b = true ↔ a = b := by
  constructor
  · intro h
    simp only [sameB, Bool.and_eq_true, beq_iff_eq] at h
    obtain ⟨⟨⟨⟨⟨⟨⟨h1, h2⟩, h3⟩, h4, h5⟩, h6⟩, h7⟩, h8⟩, h9⟩ := h
    cases a
    cases b
    simp only [Alr.mk.injEq]
    exact ⟨bytes_inj h1, h2, h3, h4, h5, h6, h7, h8, h9⟩
  · rintro rfl
    exact sameB_refl a
theorem sameB_comm (a b : Alr) : sameB a b = sameB b a := by
  rw [Bool.eq_iff_iff, sameB_iff, sameB_iff]
  exact eq_comm
/-- Two notices of a version with alerts that are not the same; that someone signed, both. -/
def splitV (v : Int) (x y : It) : Bool := x.n.a.ver == v && y.n.a.ver == v && !sameB x.n.a y.n.a
def hasS (s : Int) (x : It) : Bool := x.n.sg.any fun z => z.1 == s
def twoV (v s : Int) (x y : It) : Bool := splitV v x y && (hasS s x && hasS s y)
theorem splitV_comm (v : Int) (x y : It) : splitV v x y = splitV v y x := by
  unfold splitV
  rw [sameB_comm x.n.a y.n.a, Bool.and_comm (x.n.a.ver == v)]
theorem twoV_comm (v s : Int) (x y : It) : twoV v s x y = twoV v s y x := by
  unfold twoV
  rw [splitV_comm, Bool.and_comm (hasS s x)]
theorem splitV_self (v : Int) (x : It) : splitV v x x = false := by simp [splitV, sameB_refl]
theorem twoV_self (v s : Int) (x : It) : twoV v s x x = false := by simp [twoV, splitV_self]
theorem hasS_iff {s : Int} {x : It} : hasS s x = true ↔ s ∈ x.who := by
  unfold hasS It.who
  rw [List.any_eq_true, List.mem_map]
  simp
theorem splitV_iff {v : Int} {x y : It} (hx : okA x.n.a = true) (hy : okA y.n.a = true) : splitV v x y = true ↔ x.n.a.ver = v ∧ y.n.a.ver = v ∧ x.tx ≠ y.tx := by
  unfold splitV
  simp only [Bool.and_eq_true, beq_iff_eq, Bool.not_eq_true']
  rw [and_assoc]
  refine and_congr_right fun _ => and_congr_right fun _ => ?_
  rw [← Bool.not_eq_true, not_congr sameB_iff]
  exact not_congr ⟨fun e => by unfold It.tx; rw [e], fun e => text_inj hx hy e⟩
theorem two_len {α : Type} : ∀ {l : List α}, l.Nodup → (2 ≤ l.length ↔ ∃ a ∈ l, ∃ b ∈ l, a ≠ b)
  | [], _ => by simp
  | [a], _ => by simp
  | a :: b :: l, h => by
    refine ⟨fun _ => ⟨a, by simp, b, by simp, ?_⟩, fun _ => by simp⟩
    intro e
    have := (List.nodup_cons.1 h).1
    rw [e] at this
    exact this (by simp)
/-- There is a fork of a version just where it has two texts. -/
theorem fork_texts {L : List It} (hok : ∀ x ∈ L, okA x.n.a = true) (v : Int) : 2 ≤ (textsV L v).length ↔ pairAny (splitV v) L L.length = true := by
  rw [two_len (textsV_nodup L v), pairAny_mem (splitV_comm v) (splitV_self v)]
  constructor
  · rintro ⟨s, hs, t, ht, hne⟩
    obtain ⟨x, hx, h1, rfl⟩ := mem_textsV.1 hs
    obtain ⟨y, hy, h2, rfl⟩ := mem_textsV.1 ht
    exact ⟨x, hx, y, hy, (splitV_iff (hok x hx) (hok y hy)).2 ⟨h1, h2, hne⟩⟩
  · rintro ⟨x, hx, y, hy, h⟩
    obtain ⟨h1, h2, h3⟩ := (splitV_iff (hok x hx) (hok y hy)).1 h
    exact ⟨_, mem_textsV.2 ⟨x, hx, h1, rfl⟩, _, mem_textsV.2 ⟨y, hy, h2, rfl⟩, h3⟩
/-- Someone signed two ways just where two texts of the version are signed by him. -/
theorem two_texts {L : List It} (hok : ∀ x ∈ L, okA x.n.a = true) (v s : Int) : 2 ≤ ((textsV L v).filter fun t => decide (s ∈ sgs L v t)).length ↔ pairAny (twoV v s) L L.length = true := by
  rw [two_len ((textsV_nodup L v).filter _), pairAny_mem (twoV_comm v s) (twoV_self v s)]
  constructor
  · rintro ⟨t, ht, u, hu, hne⟩
    obtain ⟨_, h1⟩ := List.mem_filter.1 ht
    obtain ⟨_, h2⟩ := List.mem_filter.1 hu
    obtain ⟨x, hx, a1, rfl, a3⟩ := mem_sgs.1 (of_decide_eq_true h1)
    obtain ⟨y, hy, b1, rfl, b3⟩ := mem_sgs.1 (of_decide_eq_true h2)
    refine ⟨x, hx, y, hy, ?_⟩
    unfold twoV
    rw [(splitV_iff (hok x hx) (hok y hy)).2 ⟨a1, b1, hne⟩, hasS_iff.2 a3, hasS_iff.2 b3]
    rfl
  · rintro ⟨x, hx, y, hy, h⟩
    unfold twoV at h
    simp only [Bool.and_eq_true] at h
    obtain ⟨h0, h1, h2⟩ := h
    obtain ⟨a1, b1, hne⟩ := (splitV_iff (hok x hx) (hok y hy)).1 h0
    exact ⟨x.tx, List.mem_filter.2 ⟨mem_textsV.2 ⟨x, hx, a1, rfl⟩, decide_eq_true (mem_sgs.2 ⟨x, hx, a1, rfl, hasS_iff.1 h1⟩)⟩, y.tx, List.mem_filter.2 ⟨mem_textsV.2 ⟨y, hy, b1, rfl⟩, decide_eq_true (mem_sgs.2 ⟨y, hy, b1, rfl, hasS_iff.1 h2⟩)⟩, hne⟩
/-- An event is disputed just where some version of it has two texts. -/
theorem disp_texts {L : List It} (hok : ∀ x ∈ L, okA x.n.a = true) : disp L L.length = true ↔ ∃ v, 2 ≤ (textsV L v).length := by
  have hd : ∀ i, i ≤ L.length → (disp L i = true ↔ ∃ a, ∃ ha : a < L.length, ∃ k, ∃ hk : k < L.length, a < i ∧ k < a ∧ clash L[k].n.a L[a].n.a = true) := by
    intro i
    induction i with
    | zero =>
      intro _
      constructor
      · intro h; cases h
      · rintro ⟨a, _, _, _, h, _⟩; omega
    | succ i ih =>
      intro hi
      unfold disp
      rw [Bool.or_eq_true, ih (by omega)]
      constructor
      · rintro (⟨a, ha, k, hk, h1, h2, h3⟩ | h)
        · exact ⟨a, ha, k, hk, by omega, h2, h3⟩
        · unfold dispIn at h
          obtain ⟨k, hk, h⟩ := List.any_eq_true.1 h
          have hk2 : k < i := List.mem_range.1 hk
          rw [clashAt_eq (by omega) (by omega)] at h
          exact ⟨i, by omega, k, by omega, by omega, hk2, h⟩
      · rintro ⟨a, ha, k, hk, h1, h2, h3⟩
        by_cases e : a = i
        · subst e
          refine .inr ?_
          unfold dispIn
          exact List.any_eq_true.2 ⟨k, List.mem_range.2 h2, by rw [clashAt_eq hk ha]; exact h3⟩
        · exact .inl ⟨a, ha, k, hk, by omega, h2, h3⟩
  rw [hd _ (Nat.le_refl _)]
  constructor
  · rintro ⟨a, ha, k, hk, h1, h2, h3⟩
    refine ⟨L[a].n.a.ver, (fork_texts hok _).2 ((pairAny_mem (splitV_comm _) (splitV_self _)).2 ⟨L[k], List.getElem_mem hk, L[a], List.getElem_mem ha, ?_⟩)⟩
    unfold clash at h3
    unfold splitV
    simp only [Bool.and_eq_true, beq_iff_eq] at h3 ⊢
    exact ⟨⟨h3.1, trivial⟩, h3.2⟩
  · rintro ⟨v, hv⟩
    obtain ⟨a, ha, k, hk, h1, h2, h3⟩ := (pairAny_iff (Nat.le_refl _)).1 ((fork_texts hok v).1 hv)
    refine ⟨a, ha, k, hk, h1, h2, ?_⟩
    rw [splitV_comm] at h3
    unfold splitV at h3
    unfold clash
    simp only [Bool.and_eq_true, beq_iff_eq] at h3 ⊢
    exact ⟨h3.1.1.trans h3.1.2.symm, h3.2⟩
end Go.Proofs.YtohfofecbdfkgaaGreatDoor

/-
  The walks of slices.Contains and slices.Index, for ints.
-/
namespace Go.Proofs.YtohfofecbdfkgaaGreatDoor
open Go.RowKit Al

set_option maxRecDepth 100000 in
set_option maxHeartbeats 2000000 in
theorem slIndex_ (l : List Int) (A : Option Addr) (c : Nat) (s : Int) (w : World) (h : Sl w w.heap.size 1 A l.length c (ints l)) :
    Calls Tryz.prog 106 #[.slice A l.length c, .int .i64 s] w fun e w' => ∃ v : Int, e = .returned (.int .i64 v) ∧ decide (0 ≤ v) = l.any (fun x => x == s) ∧ Below w.heap.size w w' := by
  have HL := Lib.hid h
  have hlen : l.length ≤ maxLen := Nat.le_trans h.cap h.max
  unfold maxLen at hlen
  clear h
  go_enter Tryz.func106, Tryz.ntmps106
  go_wp2_with fail
  go_loopw [8] (fun i wr => AnRel (fun x : Int => x == s) l w i wr) (fun i _ => l.length - (intOf i).toNat)
  case atStart => exact ⟨0, Nat.zero_le _, rfl, (by show _ = _; simp), Below.refl _ _⟩
  case round =>
    obtain ⟨k, hk, rfl, HA, hB⟩ := hrel
    have hsz := hB.size
    have HB := Lib.hid hB
    clear hB
    by_cases hlt : k < l.length
    · obtain ⟨nb, off, rfl, hnb, y0⟩ := (HL.out.below HB.out).int_at hlt hlt
      have i0 : (0 : Int) ≤ (k : Int) := by omega
      have i1 : (k : Int) < (l.length : Int) := by omega
      cases hv : (l[k] == s) with
      | true =>
        have HX := Lib.hid (any_take_at (p := fun x : Int => x == s) hlt hv)
        have hv2 : (s == l[k]) = true := by rw [← hv, Bool.beq_comm]
        go_wp2_with fail
        go_ret
        exact ⟨k, rfl, by rw [HX.out]; exact decide_eq_true (by omega), HB.out⟩
      | false =>
        have HX := Lib.hid (any_take_no (p := fun x : Int => x == s) hlt HA.out hv)
        have hv2 : (s == l[k]) = false := by rw [← hv, Bool.beq_comm]
        go_wp2_with fail
        go_roundw
        case rel => exact ⟨k + 1, by omega, by go_num, HX, HB.out⟩
        case measure => simp [intOf]; omega
    · obtain rfl : k = l.length := by omega
      have HX := Lib.hid (any_end HA.out)
      go_wp2_with fail
      go_ret
      exact ⟨-1, rfl, by rw [HX.out]; rfl, HB.out⟩
set_option maxRecDepth 100000 in
theorem slContains_ (l : List Int) (A : Option Addr) (c : Nat) (s : Int) (w : World) (h : Sl w w.heap.size 1 A l.length c (ints l)) :
    Calls Tryz.prog 69 #[.slice A l.length c, .int .i64 s] w fun e w' => e = .returned (.bool (l.any fun x => x == s)) ∧ Below w.heap.size w w' := by
  have HL := Lib.hid h
  clear h
  go_enter Tryz.func69, Tryz.ntmps69
  go_wp2_with fail
  refine (slIndex_ l A c s w HL.out).mono ?_
  rintro e w1 ⟨v, rfl, hv, hb⟩
  have HB := Lib.hid hb
  have HV := Lib.hid hv
  clear hb hv
  go_wp2_with fail
  go_ret
  exact ⟨by rw [← HV.out]; rfl, HB.out⟩
theorem slContains_is (l : List Int) (A : Option Addr) (c : Nat) (s : Int) (b : Bool) (w : World) (hb : decide (s ∈ l) = b) (h : Sl w w.heap.size 1 A l.length c (ints l)) :
    Calls Tryz.prog 69 #[.slice A l.length c, .int .i64 s] w fun e w' => e = .returned (.bool b) ∧ Below w.heap.size w w' := by
  have e : (l.any fun x => x == s) = b := by
    rw [← hb, Bool.eq_iff_iff, List.any_eq_true, decide_eq_true_eq]
    constructor
    · rintro ⟨x, hx, e⟩
      have : x = s := by simpa using e
      exact this ▸ hx
    · intro h
      exact ⟨s, h, by simp⟩
  exact e ▸ slContains_ l A c s w h
end Go.Proofs.YtohfofecbdfkgaaGreatDoor
