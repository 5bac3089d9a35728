/-
  The walks of slices.Grow, slices.Concat and rotated, at triggers.
-/
import Derived.Test.YtmpbhngjkbidcaaGreatDoorW15
import Derived.Lib.AppendZeros
import Derived.Deep.AppendLies
namespace Go.Proofs.YtmpbhngjkbidcaaGreatDoor
open Go.RowKit Al

theorem new_row (w : World) (cs : Array Value) (G : Nat) (hs : cs.size = G * 3) (hG : G ≤ maxLen) : (w.alloc (.cells cs 47)).ownsRow w.heap.size 47 3 (.slice (some ⟨w.heap.size, 0, none⟩) 0 G) 0 [] :=
  ⟨rfl, .inr ⟨w.heap.size, G, cs, rfl, Nat.le_refl _, heap_alloc_new w _, Nat.zero_le _, hG, hs, rfl⟩⟩
/-- A new empty row with room, or nil. -/
def GrOut (w : World) (e : Ending) (w' : World) : Prop := ∃ A c, e = .returned (.slice A 0 c) ∧ w'.ownsRow w.heap.size 47 3 (.slice A 0 c) 0 [] ∧ Below w.heap.size w w'
set_option maxRecDepth 100000 in
theorem grow_ (n : Nat) (w : World) (hn : n ≤ 4611686018427387904) (hb : n * 24 ≤ 140737488355328) : Calls Tryz.prog 161 #[.slice none 0 0, .int .i64 n] w (GrOut w) := by
  by_cases h0 : n = 0
  · subst h0
    go_enter Tryz.func161, Tryz.ntmps161
    go_wp2_with fail
    go_ret
    exact ⟨none, 0, rfl, World.ownsRow_nil _ _ _ _, Below.refl _ _⟩
  · have h1 : (0 : Int) < (n : Int) := by omega
    have h2 : ¬ (n : Int) < 0 := by omega
    obtain ⟨i0, hi, hz0, hz1, hz2⟩ := info_parts infoTrg
    have hap := Lib.run_append_nil_zeros (P := Tryz.prog) w 22 3 22 47 i0 (.agg #[.int .i64 0, .int .i64 0, .int .i64 0]) .i64 .i64 Tryz.underlying22 Tryz.underlying3 hi hz0 n (by omega) (by omega) (by omega) (by rw [hz2]; omega)
    obtain ⟨G, hG⟩ : ∃ G, grownCap w n 0 47 = G := ⟨_, rfl⟩
    have hge : n ≤ G := by rw [← hG]; exact grownCap_ge w _ _ _
    have hle : G ≤ maxLen := by rw [← hG]; exact grownCap_le_maxLen w _ _ _ (by unfold maxLen; omega)
    unfold maxLen at hle
    rw [hG] at hap
    have HAP := Lib.hid hap
    have HL := Lib.hid hle
    clear hap hG
    go_enter Tryz.func161, Tryz.ntmps161
    go_wp2_with (at_builtin; refine Lib.wpList_append_run _ rfl _ _ _ _ rfl _ _ rfl rfl _ _ HAP.out ?_)
    go_ret
    refine ⟨some ⟨w.heap.size, 0, none⟩, G, rfl, ?_, (by repeat (first | exact Below.refl _ _ | assumption | refine below_drewN ?_ _ | refine Below.drew ?_ | refine Below.setCell ?_ (by first | omega | (simp; done) | (simp; omega)) _ | refine Below.alloc ?_ (by first | omega | (simp; done) | (simp; omega)) _))⟩
    have e1 : ∀ m, (Builtin.zeroCells #[Value.int .i64 0, Value.int .i64 0, Value.int .i64 0] m).size = m * 3 := fun m => by simp [Builtin.zeroCells]
    exact new_row w.drew _ _ (by rw [Array.size_append, e1, e1]; omega) HL.out
/-- Two lists of triggers, in a slice of slices. -/
structure Two (w : World) (b : Nat) (A1 : Option Addr) (n1 c1 : Nat) (l1 : List Trg) (A2 : Option Addr) (n2 c2 : Nat) (l2 : List Trg) : Prop where
  k0 : w.cell? ⟨b, 0, none⟩ = some (.slice A1 n1 c1)
  k1 : w.cell? ⟨b, 1, none⟩ = some (.slice A2 n2 c2)
  lt : b < w.heap.size
  s1 : Sl w w.heap.size 3 A1 n1 c1 (trCells l1)
  s2 : Sl w w.heap.size 3 A2 n2 c2 (trCells l2)
  n1 : n1 = l1.length
  n2 : n2 = l2.length
def szN (n1 n2 : Nat) : Nat → Nat
  | 0 => 0
  | 1 => n1
  | _ => n1 + n2
def caN (l1 l2 : List Trg) : Nat → List Trg
  | 0 => []
  | 1 => l1
  | _ => l1 ++ l2
def ccRel (n1 n2 : Nat) (s i : Value) : Prop := ∃ k : Nat, k ≤ 2 ∧ i = .int .i64 k ∧ s = .int .i64 (szN n1 n2 k)
def cdRel (l1 l2 : List Trg) (w : World) (s i : Value) (wr : World) : Prop := ∃ (k : Nat) (A : Option Addr) (c : Nat), k ≤ 2 ∧ i = .int .i64 k ∧ s = .slice A (caN l1 l2 k).length c ∧ Hid (wr.ownsRow w.heap.size 47 3 (.slice A (caN l1 l2 k).length c) (caN l1 l2 k).length (trCells (caN l1 l2 k))) ∧ Below w.heap.size w wr
theorem cd_1 {l1 l2 : List Trg} {w w1 : World} {A' : Option Addr} {n1 c' : Nat} (hn : n1 = l1.length) (h : w1.ownsRow w.heap.size 47 3 (.slice A' (0 + n1) c') (0 + n1) (trCells (caN l1 l2 0) ++ trCells l1)) (hb : Below w.heap.size w w1) : cdRel l1 l2 w (.slice A' n1 c') (.int .i64 1) w1 := by
  subst hn
  exact ⟨1, A', c', by omega, rfl, rfl, Lib.hid (by simpa [caN, trCells] using h), hb⟩
theorem cd_2 {l1 l2 : List Trg} {w w1 : World} {A' : Option Addr} {n2 c' : Nat} (hn : n2 = l2.length) (h : w1.ownsRow w.heap.size 47 3 (.slice A' ((caN l1 l2 1).length + n2) c') ((caN l1 l2 1).length + n2) (trCells (caN l1 l2 1) ++ trCells l2)) (hb : Below w.heap.size w w1) : cdRel l1 l2 w (.slice A' ((caN l1 l2 1).length + n2) c') (.int .i64 2) w1 := by
  subst hn
  exact ⟨2, A', c', by omega, rfl, by simp [caN], Lib.hid (by simpa [caN, trCells] using h), hb⟩
set_option maxRecDepth 100000 in
set_option maxHeartbeats 2000000 in
theorem concat_ (l1 l2 : List Trg) (A1 A2 : Option Addr) (n1 c1 n2 c2 b : Nat) (w : World) (h : Two w b A1 n1 c1 l1 A2 n2 c2 l2) (hn1 : n1 ≤ 256) (hn2 : n2 ≤ 256) :
    Calls Tryz.prog 136 #[.slice (some ⟨b, 0, none⟩) 2 2] w (OwnTrg w.heap.size (l1 ++ l2) w) := by
  obtain ⟨i0, hi, hz0, hz1, hz2⟩ := info_parts infoTrg
  obtain ⟨k0, k1, hlt, hs1, hs2, hl1, hl2⟩ := h
  have HS1 := Lib.hid hs1
  have HS2 := Lib.hid hs2
  have HL1 := Lib.hid hl1
  have HL2 := Lib.hid hl2
  clear hs1 hs2 hl1 hl2
  go_enter Tryz.func136, Tryz.ntmps136
  go_wp2_with fail
  go_loop [3, 11] (fun s i => ccRel n1 n2 s i) (fun _ i => 2 - (intOf i).toNat)
  case atStart => exact ⟨0, by omega, rfl, rfl⟩
  case round =>
    obtain ⟨k, hk, rfl, rfl⟩ := hrel
    rcases (show k = 0 ∨ k = 1 ∨ k = 2 by omega) with rfl | rfl | rfl
    · have z1 : ((szN n1 n2 0 : Nat) : Int) = 0 := rfl
      have z2 : ((0 : Nat) : Int) = 0 := rfl
      rw [z1, z2]
      clear z1 z2
      go_wp2_with fail
      go_round
      case rel => exact ⟨1, by omega, rfl, by go_num⟩
      case measure => simp [intOf]
    · have z1 : ((szN n1 n2 1 : Nat) : Int) = (n1 : Int) := rfl
      have z2 : ((1 : Nat) : Int) = 1 := rfl
      rw [z1, z2]
      clear z1 z2
      go_wp2_with fail
      go_round
      case rel => exact ⟨2, by omega, rfl, by unfold szN; go_num⟩
      case measure => simp [intOf]
    · have z1 : ((szN n1 n2 2 : Nat) : Int) = ((n1 + n2 : Nat) : Int) := rfl
      have z2 : ((2 : Nat) : Int) = 2 := rfl
      rw [z1, z2]
      clear z1 z2
      go_wp2_with (go_at_call 161; refine (grow_ (n1 + n2) w (by omega) (by omega)).mono ?_; rintro e w1 ⟨A, c, rfl, hown, hb⟩; have HO := Lib.hid hown; have HB := Lib.hid hb; clear hown hb)
      go_loopw [6, 27] (fun s i wr => cdRel l1 l2 w s i wr) (fun _ i _ => 2 - (intOf i).toNat)
      case atStart => exact ⟨0, A, c, by omega, rfl, rfl, HO.out, HB.out⟩
      case round =>
        obtain ⟨k, A, c, hk, rfl, rfl, HO, hb⟩ := hrel
        have HB := Lib.hid hb
        have hsz := hb.size
        have g0 := (hb.cell (p := ⟨b, 0, none⟩) hlt).trans k0
        have g1 := (hb.cell (p := ⟨b, 1, none⟩) hlt).trans k1
        clear hb
        rcases (show k = 0 ∨ k = 1 ∨ k = 2 by omega) with rfl | rfl | rfl
        · have z2 : ((0 : Nat) : Int) = 0 := rfl
          rw [z2]
          clear z2
          go_wp2_with (at_builtin; go_must (refine wpList_append_sl rfl _ _ 22 rfl w.heap.size 47 i0 (.agg #[.int .i64 0, .int .i64 0, .int .i64 0]) 3 24 Tryz.underlying22 hi hz0 hz1 hz2 rfl (by decide) _ 0 _ rfl HO.out w.heap.size A1 n1 c1 _ rfl (HS1.out.below HB.out) (trCells_one _) (by unfold maxLen; omega) (by omega) (by omega) ?_); intro v' w1 hown hgrow _; obtain ⟨A', c', rfl⟩ := own_form hown; have HB2 := Lib.hid (HB.out.grown hgrow (by omega) (fun g hg => own_base HO.out hg)); have HOWN := Lib.hid hown; clear hgrow hown)
          go_roundw
          case rel => exact cd_1 HL1.out HOWN.out HB2.out
          case measure => simp [intOf]
        · have z2 : ((1 : Nat) : Int) = 1 := rfl
          have hc1 : (caN l1 l2 1).length ≤ 256 := by show l1.length ≤ 256; rw [← HL1.out]; exact hn1
          rw [z2]
          clear z2
          go_wp2_with (at_builtin; go_must (refine wpList_append_sl rfl _ _ 22 rfl w.heap.size 47 i0 (.agg #[.int .i64 0, .int .i64 0, .int .i64 0]) 3 24 Tryz.underlying22 hi hz0 hz1 hz2 rfl (by decide) _ _ _ rfl HO.out w.heap.size A2 n2 c2 _ rfl (HS2.out.below HB.out) (trCells_one _) (by unfold maxLen; omega) (by omega) (by omega) ?_); intro v' w1 hown hgrow _; obtain ⟨A', c', rfl⟩ := own_form hown; have HB2 := Lib.hid (HB.out.grown hgrow (by omega) (fun g hg => own_base HO.out hg)); have HOWN := Lib.hid hown; clear hgrow hown)
          go_roundw
          case rel => exact cd_2 HL2.out HOWN.out HB2.out
          case measure => simp [intOf]
        · have z2 : ((2 : Nat) : Int) = 2 := rfl
          rw [z2]
          clear z2
          go_wp2_with fail
          go_ret
          exact ⟨A, c, rfl, HO.out, HB.out⟩
theorem trCells_drop (l : List Trg) (k : Nat) (j : Nat) : (trCells (l.drop k))[j]? = (trCells l)[k * 3 + j]? := by
  induction l generalizing k with
  | nil => simp [trCells]
  | cons a l ih =>
    cases k with
    | zero => simp
    | succ k =>
      rw [List.drop_succ_cons, ih]
      simp only [trCells, List.flatMap_cons]
      rw [show (k + 1) * 3 + j = (k * 3 + j) + 3 by omega]
      rfl
theorem Sl.suffix {w : World} {B n c : Nat} {ad : Addr} {l : List Trg} (h : Sl w B 3 (some ad) n c (trCells l)) (hn : n = l.length) {k : Nat} (hk : k ≤ n) : Sl w B 3 (some (ad.add (k * 3))) (n - k) (c - k) (trCells (l.drop k)) := by
  subst hn
  refine ⟨by rw [trCells_len, List.length_drop], by have := h.cap; omega, by have := h.max; omega, (fun h => by cases h), fun h0 => ?_⟩
  obtain ⟨b', off', e, hb, hc⟩ := h.at_ (by omega)
  cases e
  exact ⟨b', off' + k * 3, by rw [Addr.add_lit], hb, fun j u hu => by rw [Nat.add_assoc]; exact hc _ _ (by rw [← trCells_drop]; exact hu)⟩
theorem trCells_take (l : List Trg) (k : Nat) (j : Nat) (u : Value) (h : (trCells (l.take k))[j]? = some u) : (trCells l)[j]? = some u := by
  have e : trCells l = trCells (l.take k) ++ trCells (l.drop k) := by
    unfold trCells
    rw [← List.flatMap_append, List.take_append_drop]
  rw [e, List.getElem?_append_left (List.getElem?_eq_some_iff.1 h).1]
  exact h
theorem Sl.prefix_ {w : World} {B n c : Nat} {A : Option Addr} {l : List Trg} (h : Sl w B 3 A n c (trCells l)) (hn : n = l.length) {k : Nat} (hk : k ≤ n) : Sl w B 3 A k c (trCells (l.take k)) := by
  subst hn
  refine ⟨by rw [trCells_len, List.length_take, Nat.min_eq_left hk], by have := h.cap; omega, h.max, h.nil_, fun h0 => ?_⟩
  obtain ⟨b', off', e, hb, hc⟩ := h.at_ (by omega)
  exact ⟨b', off', e, hb, fun j u hu => hc _ _ (trCells_take l k j u hu)⟩
def OwnTrgN (base n : Nat) (l : List Trg) (w : World) (e : Ending) (w' : World) : Prop := ∃ A c, e = .returned (.slice A n c) ∧ w'.ownsRow base 47 3 (.slice A n c) n (trCells l) ∧ Below w.heap.size w w'
set_option maxRecDepth 100000 in
set_option maxHeartbeats 2000000 in
theorem rotated_ (l : List Trg) (A : Option Addr) (c k : Nat) (w : World) (h : Sl w w.heap.size 3 A l.length c (trCells l)) (hk : k ≤ l.length) (hl : l.length ≤ 256) :
    Calls Tryz.prog 110 #[.slice A l.length c, .int .i64 k] w (OwnTrgN w.heap.size l.length (l.drop k ++ l.take k) w) := by
  have hc1 := h.cap
  have hc2 := h.max
  unfold maxLen at hc2
  have HS := Lib.hid h
  clear h
  cases A with
  | none =>
    have h0 := HS.out.nil_ rfl
    obtain rfl : l = [] := List.eq_nil_of_length_eq_zero (by omega)
    obtain rfl : k = 0 := by simpa using hk
    obtain rfl : c = 0 := h0
    have HB0 : Hid (Below w.heap.size w (w.alloc (.cells #[.slice none 0 0, .slice none 0 0] 22)).drew) := (by repeat (first | exact Below.refl _ _ | assumption | refine below_drewN ?_ _ | refine Below.drew ?_ | refine Below.setCell ?_ (by first | omega | (simp; done) | (simp; omega)) _ | refine Below.alloc ?_ (by first | omega | (simp; done) | (simp; omega)) _))
    have HT : Hid (Two (w.alloc (.cells #[.slice none 0 0, .slice none 0 0] 22)).drew w.heap.size none 0 0 (([] : List Trg).drop 0) none 0 0 (([] : List Trg).take 0)) := ⟨by simp [go_sem], by simp [go_sem], by simp, (Sl.nilS _ _ _), (Sl.nilS _ _ _), by simp, by simp⟩
    have HZ : Hid ((w.alloc (.cells #[.slice none 0 0, .slice none 0 0] 22)).drew.heap.size = w.heap.size + 1) := by show _ = _; simp
    have HLEN : Hid ((([] : List Trg).drop 0 ++ ([] : List Trg).take 0).length = 0) := by show _ = _; simp
    go_enter Tryz.func110, Tryz.ntmps110
    go_wp2_with fail
    go_region_with (go_at_call 136; refine (concat_ _ _ _ _ _ _ _ _ _ _ HT.out (by omega) (by omega)).mono ?_; rintro e w5 ⟨A', c', rfl, ho, hb⟩; have HO := Lib.hid ho; have HB := Lib.hid hb; clear ho hb)
    all_goals
      go_wp2_with fail
      go_ret
      exact ⟨A', c', rfl, own_more (by have := HO.out; rw [HLEN.out] at this; exact this) (by rw [HZ.out]; omega), HB0.out.trans (HB.out.mono (by rw [HZ.out]; omega))⟩
  | some ad =>
    have e2 : k ≤ c := by omega
    by_cases hkc : c = k
    · subst hkc
      obtain rfl : c = l.length := by omega
      have HB0 : Hid (Below w.heap.size w (w.alloc (.cells #[.slice (some ad) 0 0, .slice (some ad) l.length l.length] 22)).drew) := (by repeat (first | exact Below.refl _ _ | assumption | refine below_drewN ?_ _ | refine Below.drew ?_ | refine Below.setCell ?_ (by first | omega | (simp; done) | (simp; omega)) _ | refine Below.alloc ?_ (by first | omega | (simp; done) | (simp; omega)) _))
      have HT : Hid (Two (w.alloc (.cells #[.slice (some ad) 0 0, .slice (some ad) l.length l.length] 22)).drew w.heap.size (some ad) 0 0 (l.drop l.length) (some ad) l.length l.length (l.take l.length)) := ⟨by simp [go_sem], by simp [go_sem], by simp, (by rw [List.drop_length]; exact ⟨rfl, Nat.le_refl _, Nat.zero_le _, (fun h => by cases h), fun h => absurd h (by omega)⟩), ((HS.out.prefix_ rfl hk).below HB0.out).more (by simp), by simp, by simp⟩
      have HZ : Hid ((w.alloc (.cells #[.slice (some ad) 0 0, .slice (some ad) l.length l.length] 22)).drew.heap.size = w.heap.size + 1) := by show _ = _; simp
      have HLEN : Hid ((l.drop l.length ++ l.take l.length).length = l.length) := by show _ = _; simp
      go_enter Tryz.func110, Tryz.ntmps110
      go_wp2_with fail
      go_region_with (go_at_call 136; refine (concat_ _ _ _ _ _ _ _ _ _ _ HT.out (by omega) (by omega)).mono ?_; rintro e w5 ⟨A', c', rfl, ho, hb⟩; have HO := Lib.hid ho; have HB := Lib.hid hb; clear ho hb)
      all_goals
        go_wp2_with fail
        go_ret
        exact ⟨A', c', rfl, own_more (by have := HO.out; rw [HLEN.out] at this; exact this) (by rw [HZ.out]; omega), HB0.out.trans (HB.out.mono (by rw [HZ.out]; omega))⟩
    · have e1 : ¬ (k = c) := fun e => hkc e.symm
      have HB0 : Hid (Below w.heap.size w (w.alloc (.cells #[.slice (some (ad.add (k * 3))) (l.length - k) (c - k), .slice (some ad) k c] 22)).drew) := (by repeat (first | exact Below.refl _ _ | assumption | refine below_drewN ?_ _ | refine Below.drew ?_ | refine Below.setCell ?_ (by first | omega | (simp; done) | (simp; omega)) _ | refine Below.alloc ?_ (by first | omega | (simp; done) | (simp; omega)) _))
      have HT : Hid (Two (w.alloc (.cells #[.slice (some (ad.add (k * 3))) (l.length - k) (c - k), .slice (some ad) k c] 22)).drew w.heap.size (some (ad.add (k * 3))) (l.length - k) (c - k) (l.drop k) (some ad) k c (l.take k)) := ⟨by simp [go_sem], by simp [go_sem], by simp, ((HS.out.suffix rfl hk).below HB0.out).more (by simp), ((HS.out.prefix_ rfl hk).below HB0.out).more (by simp), by simp, by simp [Nat.min_eq_left hk]⟩
      have HZ : Hid ((w.alloc (.cells #[.slice (some (ad.add (k * 3))) (l.length - k) (c - k), .slice (some ad) k c] 22)).drew.heap.size = w.heap.size + 1) := by show _ = _; simp
      have HLEN : Hid ((l.drop k ++ l.take k).length = l.length) := by show _ = _; simp; omega
      go_enter Tryz.func110, Tryz.ntmps110
      go_wp2_with fail
      go_region_with (go_at_call 136; refine (concat_ _ _ _ _ _ _ _ _ _ _ HT.out (by omega) (by omega)).mono ?_; rintro e w5 ⟨A', c', rfl, ho, hb⟩; have HO := Lib.hid ho; have HB := Lib.hid hb; clear ho hb)
      all_goals
        go_wp2_with fail
        go_ret
        exact ⟨A', c', rfl, own_more (by have := HO.out; rw [HLEN.out] at this; exact this) (by rw [HZ.out]; omega), HB0.out.trans (HB.out.mono (by rw [HZ.out]; omega))⟩
end Go.Proofs.YtmpbhngjkbidcaaGreatDoor

/-
  The walk of the search's slide.
-/
namespace Go.Proofs.YtmpbhngjkbidcaaGreatDoor
open Go.RowKit Al

def sdRel (live d : Int) (l : List Trg) (A : Option Addr) (c : Nat) (w : World) (f i : Value) (wr : World) : Prop :=
  ∃ k : Nat, k ≤ l.length ∧ i = .int .i64 k ∧ f = .int .i64 (firstN live d l k) ∧ Hid (wr.ownsRow w.heap.size 47 3 (.slice A l.length c) l.length (trCells (slN live d l k))) ∧ Below w.heap.size w wr
theorem slideL_len (live d : Int) (l : List Trg) : (slideL live d l).length = l.length := by
  have := firstN_le live d l l.length
  unfold slideL
  simp
  omega
set_option maxRecDepth 100000 in
set_option maxHeartbeats 2000000 in
theorem slide_ (l : List Trg) (B : Option Addr) (cb : Nat) (live d : Int) (w : World) (h : Sl w w.heap.size 3 B l.length cb (trCells l)) (hl : l.length ≤ 256) :
    Calls Tryz.prog 67 #[.slice B l.length cb, .int .i64 live, .int .i64 d] w (OwnTrgN w.heap.size l.length (slideL live d l) w) := by
  have HS := Lib.hid h
  clear h
  go_enter Tryz.func67, Tryz.ntmps67
  go_wp2_with fail
  refine (CloneTrg_ l B cb w HS.out (by omega)).mono ?_
  rintro e w1 ⟨A, c, rfl, hown, hb⟩
  have HO1 := Lib.hid hown
  have HB1 := Lib.hid hb
  clear hown hb
  go_wp2_with fail
  go_loopw [8, 17] (fun f i wr => sdRel live d l A c w f i wr) (fun _ i _ => l.length - (intOf i).toNat)
  case atStart => exact ⟨0, Nat.zero_le _, rfl, rfl, (by show w1.ownsRow _ _ _ _ _ _; simpa [slN] using HO1.out), HB1.out⟩
  case round =>
    obtain ⟨k, hk, rfl, rfl, HO, hb⟩ := hrel
    have HB := Lib.hid hb
    have hsz := hb.size
    have hfl := firstN_le live d l k
    clear hb
    by_cases hlt : k < l.length
    · obtain ⟨tb, tq, rfl, htb, c0, c1, c2⟩ := (HS.out.below HB.out).tr_at hlt
      obtain ⟨g, rfl⟩ : ∃ g, A = some ⟨g, 0, none⟩ := by
        obtain ⟨g, cap, hv, -, -⟩ := HO.out.form (show 0 < l.length by omega)
        injection hv with h1 h2 h3
        exact ⟨g, h1⟩
      have hg := HO.out.lt g rfl
      have hkl : (slN live d l k).length = l.length := slN_len _ _ _ _ hk
      have hat := slN_at live d l hlt
      have r0 := HO.out.cellAt (k * 3) (by omega)
      have r1 := HO.out.frozenAt (k * 3)
      have hcell := (trCells_at (l := slN live d l k) (k := k) (by omega)).1
      rw [hat] at hcell
      rw [hcell] at r0
      have HSET := Lib.hid (slN_set live d l hlt)
      have HST2 : Hid (∀ x : Int, (trCells (slN live d l k)).set (k * 3) (.int .i64 x) = trCells ((slN live d l k).set k (x, l[k].2.1, l[k].2.2))) := fun x => trCells_set _ _ (x, l[k].2.1, l[k].2.2) (by omega) (by rw [hat])
      have HF : Hid (firstN live d l (k + 1) = if live ≤ wrap64 (l[k].1 + d) then min (firstN live d l k) k else firstN live d l k) := by
        show _ = _
        rw [show firstN live d l (k + 1) = if live ≤ wrap64 ((l.getD k (0, 0, 0)).1 + d) then min (firstN live d l k) k else firstN live d l k from rfl, show l.getD k (0, 0, 0) = l[k] by simp [hlt]]
      clear hcell hat hkl
      obtain ⟨t1, t2, t3, ht⟩ : ∃ a b c, l[k] = (a, b, c) := ⟨_, _, _, rfl⟩
      rw [ht] at c0 c1 c2 r0 HSET HST2 HF
      simp only at c0 c1 c2 r0 HST2 HF
      clear ht
      have hlt' : (k : Int) < (l.length : Int) := by omega
      have htb2 : tb < wr.heap.size := by omega
      have hg2 : g < wr.heap.size := hg.2
      obtain ⟨F, hF⟩ : ∃ F, firstN live d l k = F := ⟨_, rfl⟩
      rw [hF] at HF hfl ⊢
      clear hF
      by_cases hge : live ≤ wrap64 (t1 + d)
      · have HX : Hid (firstN live d l (k + 1) = min F k) := by show _ = _; rw [HF.out, if_pos hge]
        have HT : Hid (slT live d (t1, t2, t3) = (wrap64 (wrap64 (t1 + d) - live), t2, t3)) := by show _ = _; unfold slT; rw [if_pos hge]
        go_wp2_with fail
        have h1 := (HO.out.stored (k * 3) (.int .i64 (wrap64 (t1 + d))))
        have h2 := (h1.1.stored (k * 3) (.int .i64 (wrap64 (wrap64 (t1 + d) - live))))
        have h3 := h2.1
        rw [List.set_set, HST2.out, ← HT.out, HSET.out] at h3
        go_roundw
        case rel => exact ⟨k + 1, by omega, by go_num, (by rw [HX.out]; go_num), (h3.alloc _), ((HB.out.grown h1.2 hsz (fun j e => by cases e; exact hg.1)).grown h2.2 (by simp; exact hsz) (fun j e => by cases e; exact hg.1)).alloc (by simp; exact hsz) _⟩
        case measure => simp [intOf]; omega
      · have HX : Hid (firstN live d l (k + 1) = F) := by show _ = _; rw [HF.out, if_neg hge]
        have HT : Hid (slT live d (t1, t2, t3) = (wrap64 (t1 + d), t2, t3)) := by show _ = _; unfold slT; rw [if_neg hge]
        go_wp2_with fail
        have h1 := (HO.out.stored (k * 3) (.int .i64 (wrap64 (t1 + d))))
        have h3 := h1.1
        rw [HST2.out, ← HT.out, HSET.out] at h3
        go_roundw
        case rel => exact ⟨k + 1, by omega, by go_num, (by rw [HX.out]), (h3.alloc _), (HB.out.grown h1.2 hsz (fun j e => by cases e; exact hg.1)).alloc (by simp; exact hsz) _⟩
        case measure => simp [intOf]; omega
    · obtain rfl : k = l.length := by omega
      have hsl : slN live d l l.length = l.map (slT live d) := by unfold slN; simp
      have HS2 : Hid (Sl wr wr.heap.size 3 A l.length c (trCells (slN live d l l.length))) := Sl.of_own HO.out
      have HEQ : Hid (slideL live d l = (slN live d l l.length).drop (firstN live d l l.length) ++ (slN live d l l.length).take (firstN live d l l.length)) := by show _ = _; rw [hsl]; rfl
      have HSL := Lib.hid (slN_len live d l l.length (Nat.le_refl _))
      obtain ⟨M, hM⟩ : ∃ M, slN live d l l.length = M := ⟨_, rfl⟩
      obtain ⟨F, hF⟩ : ∃ F, firstN live d l l.length = F := ⟨_, rfl⟩
      rw [hM] at HS2 HEQ HSL
      rw [hF] at hfl HEQ ⊢
      clear hsl hM hF
      have HR := rotated_ M A c F wr (by rw [HSL.out]; exact HS2.out) (by rw [HSL.out]; exact hfl) (by rw [HSL.out]; exact hl)
      rw [HSL.out, ← HEQ.out] at HR
      have HRR := Lib.hid HR
      clear HR
      go_wp2_with fail
      refine HRR.out.mono ?_
      rintro e w5 ⟨A', c', rfl, ho, hb⟩
      have HO5 := Lib.hid ho
      have HB5 := Lib.hid hb
      clear ho hb
      go_wp2_with fail
      go_ret
      exact ⟨A', c', rfl, own_more HO5.out hsz, HB.out.trans (HB5.out.mono hsz)⟩
end Go.Proofs.YtmpbhngjkbidcaaGreatDoor
