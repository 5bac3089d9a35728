/-
  The walks of the functions that compare lists and alerts.
-/
import Derived.Test.YtmpbhngjkbidcaaGreatDoorW13
namespace Go.Proofs.YtmpbhngjkbidcaaGreatDoor
open Go.RowKit Al

def SiRel (l m : List Int) (i : Value) : Prop := ∃ k : Nat, k ≤ l.length ∧ i = .int .i64 k ∧ Hid (l.take k = m.take k)
theorem si_len {l m : List Int} (h : ¬ l.length = m.length) : (l == m) = false := by
  rw [beq_eq_false_iff_ne]; intro e; exact h (by rw [e])
theorem si_at {l m : List Int} {k : Nat} (h : k < l.length) (h' : k < m.length) (hne : ¬ l[k] = m[k]) : (l == m) = false := by
  rw [beq_eq_false_iff_ne]; intro e; subst e; exact hne rfl
theorem si_step {l m : List Int} {k : Nat} (h : k < l.length) (h' : k < m.length) (he : l[k] = m[k]) (hp : l.take k = m.take k) : l.take (k + 1) = m.take (k + 1) := by
  rw [List.take_succ_eq_append_getElem h, List.take_succ_eq_append_getElem h', hp, he]
theorem si_end {l m : List Int} (hl : l.length = m.length) (hp : l.take l.length = m.take l.length) : (l == m) = true := by
  rw [List.take_of_length_le (Nat.le_refl _), hl, List.take_of_length_le (Nat.le_refl _)] at hp
  rw [hp]; exact beq_self_eq_true m

set_option maxRecDepth 100000 in
set_option maxHeartbeats 1000000 in
theorem SameInts_ (l m : List Int) (A : Option Addr) (c : Nat) (D : Option Addr) (d : Nat) (w : World) (h : Sl w w.heap.size 1 A l.length c (ints l)) (h' : Sl w w.heap.size 1 D m.length d (ints m)) :
    Calls Tryz.prog 12 #[.slice A l.length c, .slice D m.length d] w fun e w' => e = .returned (.bool (l == m)) ∧ ∃ n, w' = w.drewN n := by
  have hl : l.length ≤ maxLen := Nat.le_trans h.cap h.max
  have hm : m.length ≤ maxLen := Nat.le_trans h'.cap h'.max
  unfold maxLen at hl hm
  by_cases hlen : l.length = m.length
  · have t1 : ((l.length : Int) != (m.length : Int)) = false := by simp [hlen]
    have HL := Lib.hid hlen
    have hlm : l.length ≤ m.length := by omega
    clear hlen
    go_enter Tryz.func12, Tryz.ntmps12
    go_wp2_with fail
    go_loopw [5] (fun i wr => SiRel l m i ∧ ∃ n, wr = w.drewN n) (fun i _ => l.length - (intOf i).toNat)
    case atStart => exact ⟨⟨0, Nat.zero_le _, rfl, by show _ = _; rw [List.take_zero, List.take_zero]⟩, 0, rfl⟩
    case round =>
      obtain ⟨⟨k, hk, rfl, hp⟩, n, rfl⟩ := hrel
      by_cases hlt : k < l.length
      · have hlt2 : k < m.length := by omega
        obtain ⟨b1, o1, rfl, hb1, hc1⟩ := h.int_at hlt hlt
        obtain ⟨b2, o2, rfl, hb2, hc2⟩ := h'.int_at hlt2 hlt2
        have i0 : (0 : Int) ≤ (k : Int) := by omega
        have i1 : (k : Int) < (l.length : Int) := by omega
        have i2 : (k : Int) < (m.length : Int) := by omega
        by_cases he : l[k] = m[k]
        · have t2 : (l[k] != m[k]) = false := by simp [he]
          have HX := Lib.hid (si_step hlt hlt2 he hp.out)
          clear he
          go_wp2_with fail
          go_quiet (fail)
          go_wp2_with fail
          go_roundw
          case rel => exact ⟨⟨k + 1, by omega, by go_num, HX.out⟩, _, rfl⟩
          case measure => simp [intOf]; omega
        · have t2 : (l[k] != m[k]) = true := by simp [he]
          have HX := Lib.hid (si_at hlt hlt2 he)
          clear he
          go_wp2_with fail
          go_quiet (fail)
          go_wp2_with fail
          go_ret
          exact ⟨ret_bool HX.out.symm, _, by rw [World.drewN_drewN]⟩
      · obtain rfl : k = l.length := by omega
        have HX := Lib.hid (si_end HL.out hp.out)
        go_wp2_with fail
        go_ret
        exact ⟨ret_bool HX.out.symm, n, rfl⟩
  · have t1 : ((l.length : Int) != (m.length : Int)) = true := by simp; omega
    have HX := Lib.hid (si_len hlen)
    clear hlen
    go_enter Tryz.func12, Tryz.ntmps12
    go_wp2_with fail
    go_ret
    exact ⟨ret_bool HX.out.symm, 0, rfl⟩
theorem SameInts_is (l m : List Int) (A : Option Addr) (c : Nat) (D : Option Addr) (d : Nat) (w : World) (b : Bool) (hb : (l == m) = b) (h : Sl w w.heap.size 1 A l.length c (ints l)) (h' : Sl w w.heap.size 1 D m.length d (ints m)) :
    Calls Tryz.prog 12 #[.slice A l.length c, .slice D m.length d] w fun e w' => e = .returned (.bool b) ∧ Below w.heap.size w w' :=
  (SameInts_ l m A c D d w h h').mono fun e w' ⟨he, n, hw⟩ => ⟨by rw [he, hb], by rw [hw]; exact below_drewN (Below.refl _ _) n⟩

/-- Are two alerts the same? -/
def sameB (a b : Alr) : Bool := a.ev.toList == b.ev.toList && a.ver == b.ver && a.tm == b.tm && (a.n == b.n && a.of == b.of) && a.grid == b.grid && a.cells == b.cells && a.wd == b.wd && a.before == b.before
theorem sameB_refl (a : Alr) : sameB a a = true := by simp [sameB]

set_option maxRecDepth 100000 in
set_option maxHeartbeats 1000000 in
theorem rSame_0 (a b : Alr) (A : Option Addr) (c : Nat) (D : Option Addr) (d : Nat) (w : World) (ha : AIn w a A c) (hb : AIn w b D d) (h0 : (a.ev.toList == b.ev.toList) = false) :
    Calls Tryz.prog 46 #[a.val A c, b.val D d] w fun e w' => e = .returned (.bool false) ∧ Below w.heap.size w w' := by
  have HA := Lib.hid ha
  have HB := Lib.hid hb
  clear ha hb
  go_enter Tryz.func46, Tryz.ntmps46
  go_wp2_with fail
  go_ret
  exact ⟨rfl, (by repeat (first | exact Below.refl _ _ | assumption | refine below_drewN ?_ _ | refine Below.drew ?_ | refine Below.setCell ?_ (by first | omega | (simp; done) | (simp; omega)) _ | refine Below.alloc ?_ (by first | omega | (simp; done) | (simp; omega)) _))⟩
set_option maxRecDepth 100000 in
set_option maxHeartbeats 1000000 in
theorem rSame_1 (a b : Alr) (A : Option Addr) (c : Nat) (D : Option Addr) (d : Nat) (w : World) (ha : AIn w a A c) (hb : AIn w b D d) (h0 : (a.ev.toList == b.ev.toList) = true) (h1 : (a.ver == b.ver) = false) :
    Calls Tryz.prog 46 #[a.val A c, b.val D d] w fun e w' => e = .returned (.bool false) ∧ Below w.heap.size w w' := by
  have HA := Lib.hid ha
  have HB := Lib.hid hb
  clear ha hb
  go_enter Tryz.func46, Tryz.ntmps46
  go_wp2_with fail
  go_ret
  exact ⟨rfl, (by repeat (first | exact Below.refl _ _ | assumption | refine below_drewN ?_ _ | refine Below.drew ?_ | refine Below.setCell ?_ (by first | omega | (simp; done) | (simp; omega)) _ | refine Below.alloc ?_ (by first | omega | (simp; done) | (simp; omega)) _))⟩
set_option maxRecDepth 100000 in
set_option maxHeartbeats 1000000 in
theorem rSame_2 (a b : Alr) (A : Option Addr) (c : Nat) (D : Option Addr) (d : Nat) (w : World) (ha : AIn w a A c) (hb : AIn w b D d) (h0 : (a.ev.toList == b.ev.toList) = true) (h1 : (a.ver == b.ver) = true) (h2 : (a.tm == b.tm) = false) :
    Calls Tryz.prog 46 #[a.val A c, b.val D d] w fun e w' => e = .returned (.bool false) ∧ Below w.heap.size w w' := by
  have HA := Lib.hid ha
  have HB := Lib.hid hb
  clear ha hb
  go_enter Tryz.func46, Tryz.ntmps46
  go_wp2_with fail
  go_ret
  exact ⟨rfl, (by repeat (first | exact Below.refl _ _ | assumption | refine below_drewN ?_ _ | refine Below.drew ?_ | refine Below.setCell ?_ (by first | omega | (simp; done) | (simp; omega)) _ | refine Below.alloc ?_ (by first | omega | (simp; done) | (simp; omega)) _))⟩
set_option maxRecDepth 100000 in
set_option maxHeartbeats 1000000 in
theorem rSame_3 (a b : Alr) (A : Option Addr) (c : Nat) (D : Option Addr) (d : Nat) (w : World) (ha : AIn w a A c) (hb : AIn w b D d) (h0 : (a.ev.toList == b.ev.toList) = true) (h1 : (a.ver == b.ver) = true) (h2 : (a.tm == b.tm) = true) (h3 : (a.n == b.n) = false) :
    Calls Tryz.prog 46 #[a.val A c, b.val D d] w fun e w' => e = .returned (.bool false) ∧ Below w.heap.size w w' := by
  have HA := Lib.hid ha
  have HB := Lib.hid hb
  clear ha hb
  go_enter Tryz.func46, Tryz.ntmps46
  go_wp2_with fail
  go_ret
  exact ⟨rfl, (by repeat (first | exact Below.refl _ _ | assumption | refine below_drewN ?_ _ | refine Below.drew ?_ | refine Below.setCell ?_ (by first | omega | (simp; done) | (simp; omega)) _ | refine Below.alloc ?_ (by first | omega | (simp; done) | (simp; omega)) _))⟩
set_option maxRecDepth 100000 in
set_option maxHeartbeats 1000000 in
theorem rSame_4 (a b : Alr) (A : Option Addr) (c : Nat) (D : Option Addr) (d : Nat) (w : World) (ha : AIn w a A c) (hb : AIn w b D d) (h0 : (a.ev.toList == b.ev.toList) = true) (h1 : (a.ver == b.ver) = true) (h2 : (a.tm == b.tm) = true) (h3 : (a.n == b.n) = true) (h4 : (a.of == b.of) = false) :
    Calls Tryz.prog 46 #[a.val A c, b.val D d] w fun e w' => e = .returned (.bool false) ∧ Below w.heap.size w w' := by
  have HA := Lib.hid ha
  have HB := Lib.hid hb
  clear ha hb
  go_enter Tryz.func46, Tryz.ntmps46
  go_wp2_with fail
  go_ret
  exact ⟨rfl, (by repeat (first | exact Below.refl _ _ | assumption | refine below_drewN ?_ _ | refine Below.drew ?_ | refine Below.setCell ?_ (by first | omega | (simp; done) | (simp; omega)) _ | refine Below.alloc ?_ (by first | omega | (simp; done) | (simp; omega)) _))⟩
set_option maxRecDepth 100000 in
set_option maxHeartbeats 1000000 in
theorem rSame_5 (a b : Alr) (A : Option Addr) (c : Nat) (D : Option Addr) (d : Nat) (w : World) (ha : AIn w a A c) (hb : AIn w b D d) (h0 : (a.ev.toList == b.ev.toList) = true) (h1 : (a.ver == b.ver) = true) (h2 : (a.tm == b.tm) = true) (h3 : (a.n == b.n) = true) (h4 : (a.of == b.of) = true) (h5 : (a.grid == b.grid) = false) :
    Calls Tryz.prog 46 #[a.val A c, b.val D d] w fun e w' => e = .returned (.bool false) ∧ Below w.heap.size w w' := by
  have HA := Lib.hid ha
  have HB := Lib.hid hb
  clear ha hb
  go_enter Tryz.func46, Tryz.ntmps46
  go_wp2_with fail
  go_ret
  exact ⟨rfl, (by repeat (first | exact Below.refl _ _ | assumption | refine below_drewN ?_ _ | refine Below.drew ?_ | refine Below.setCell ?_ (by first | omega | (simp; done) | (simp; omega)) _ | refine Below.alloc ?_ (by first | omega | (simp; done) | (simp; omega)) _))⟩
set_option maxRecDepth 100000 in
set_option maxHeartbeats 1000000 in
theorem rSame_6 (a b : Alr) (A : Option Addr) (c : Nat) (D : Option Addr) (d : Nat) (w : World) (ha : AIn w a A c) (hb : AIn w b D d) (h0 : (a.ev.toList == b.ev.toList) = true) (h1 : (a.ver == b.ver) = true) (h2 : (a.tm == b.tm) = true) (h3 : (a.n == b.n) = true) (h4 : (a.of == b.of) = true) (h5 : (a.grid == b.grid) = true) (h6 : (a.cells == b.cells) = false) :
    Calls Tryz.prog 46 #[a.val A c, b.val D d] w fun e w' => e = .returned (.bool false) ∧ Below w.heap.size w w' := by
  have HA := Lib.hid ha
  have HB := Lib.hid hb
  have HC := Lib.hid h6
  clear ha hb
  go_enter Tryz.func46, Tryz.ntmps46
  go_wp2_with (go_at_call 12; refine (SameInts_is a.cells b.cells A c D d _ false HC.out (HA.out.below (by (repeat (first | exact Below.refl _ _ | assumption | refine below_drewN ?_ _ | refine Below.drew ?_ | refine Below.setCell ?_ (by first | omega | (simp; done) | (simp; omega)) _ | refine Below.alloc ?_ (by first | omega | (simp; done) | (simp; omega)) _)))).sl (HB.out.below (by (repeat (first | exact Below.refl _ _ | assumption | refine below_drewN ?_ _ | refine Below.drew ?_ | refine Below.setCell ?_ (by first | omega | (simp; done) | (simp; omega)) _ | refine Below.alloc ?_ (by first | omega | (simp; done) | (simp; omega)) _)))).sl).mono ?_; rintro e w1 ⟨rfl, hbw⟩; obtain ⟨hcw, hfw⟩ := bcell hbw; have Hw1 := Lib.hid ((show Below w.heap.size w _ from (by repeat (first | exact Below.refl _ _ | assumption | refine below_drewN ?_ _ | refine Below.drew ?_ | refine Below.setCell ?_ (by first | omega | (simp; done) | (simp; omega)) _ | refine Below.alloc ?_ (by first | omega | (simp; done) | (simp; omega)) _))).trans (hbw.mono (by first | omega | (simp; done) | (simp; omega)))); have z0 : w.heap.size < w.heap.size + 1 + 1 := (by omega); clear hbw)
  go_ret
  exact ⟨rfl, Hw1.out⟩
set_option maxRecDepth 100000 in
set_option maxHeartbeats 1000000 in
theorem rSame_7 (a b : Alr) (A : Option Addr) (c : Nat) (D : Option Addr) (d : Nat) (w : World) (ha : AIn w a A c) (hb : AIn w b D d) (h0 : (a.ev.toList == b.ev.toList) = true) (h1 : (a.ver == b.ver) = true) (h2 : (a.tm == b.tm) = true) (h3 : (a.n == b.n) = true) (h4 : (a.of == b.of) = true) (h5 : (a.grid == b.grid) = true) (h6 : (a.cells == b.cells) = true) (h7 : (a.wd == b.wd) = false) :
    Calls Tryz.prog 46 #[a.val A c, b.val D d] w fun e w' => e = .returned (.bool false) ∧ Below w.heap.size w w' := by
  have HA := Lib.hid ha
  have HB := Lib.hid hb
  have HC := Lib.hid h6
  clear ha hb
  go_enter Tryz.func46, Tryz.ntmps46
  go_wp2_with (go_at_call 12; refine (SameInts_is a.cells b.cells A c D d _ true HC.out (HA.out.below (by (repeat (first | exact Below.refl _ _ | assumption | refine below_drewN ?_ _ | refine Below.drew ?_ | refine Below.setCell ?_ (by first | omega | (simp; done) | (simp; omega)) _ | refine Below.alloc ?_ (by first | omega | (simp; done) | (simp; omega)) _)))).sl (HB.out.below (by (repeat (first | exact Below.refl _ _ | assumption | refine below_drewN ?_ _ | refine Below.drew ?_ | refine Below.setCell ?_ (by first | omega | (simp; done) | (simp; omega)) _ | refine Below.alloc ?_ (by first | omega | (simp; done) | (simp; omega)) _)))).sl).mono ?_; rintro e w1 ⟨rfl, hbw⟩; obtain ⟨hcw, hfw⟩ := bcell hbw; have Hw1 := Lib.hid ((show Below w.heap.size w _ from (by repeat (first | exact Below.refl _ _ | assumption | refine below_drewN ?_ _ | refine Below.drew ?_ | refine Below.setCell ?_ (by first | omega | (simp; done) | (simp; omega)) _ | refine Below.alloc ?_ (by first | omega | (simp; done) | (simp; omega)) _))).trans (hbw.mono (by first | omega | (simp; done) | (simp; omega)))); have z0 : w.heap.size < w.heap.size + 1 + 1 := (by omega); clear hbw)
  go_ret
  exact ⟨rfl, Hw1.out⟩
set_option maxRecDepth 100000 in
set_option maxHeartbeats 1000000 in
theorem rSame_8 (a b : Alr) (A : Option Addr) (c : Nat) (D : Option Addr) (d : Nat) (w : World) (ha : AIn w a A c) (hb : AIn w b D d) (h0 : (a.ev.toList == b.ev.toList) = true) (h1 : (a.ver == b.ver) = true) (h2 : (a.tm == b.tm) = true) (h3 : (a.n == b.n) = true) (h4 : (a.of == b.of) = true) (h5 : (a.grid == b.grid) = true) (h6 : (a.cells == b.cells) = true) (h7 : (a.wd == b.wd) = true) (h8 : (a.before == b.before) = false) :
    Calls Tryz.prog 46 #[a.val A c, b.val D d] w fun e w' => e = .returned (.bool false) ∧ Below w.heap.size w w' := by
  have HA := Lib.hid ha
  have HB := Lib.hid hb
  have HC := Lib.hid h6
  clear ha hb
  go_enter Tryz.func46, Tryz.ntmps46
  go_wp2_with (go_at_call 12; refine (SameInts_is a.cells b.cells A c D d _ true HC.out (HA.out.below (by (repeat (first | exact Below.refl _ _ | assumption | refine below_drewN ?_ _ | refine Below.drew ?_ | refine Below.setCell ?_ (by first | omega | (simp; done) | (simp; omega)) _ | refine Below.alloc ?_ (by first | omega | (simp; done) | (simp; omega)) _)))).sl (HB.out.below (by (repeat (first | exact Below.refl _ _ | assumption | refine below_drewN ?_ _ | refine Below.drew ?_ | refine Below.setCell ?_ (by first | omega | (simp; done) | (simp; omega)) _ | refine Below.alloc ?_ (by first | omega | (simp; done) | (simp; omega)) _)))).sl).mono ?_; rintro e w1 ⟨rfl, hbw⟩; obtain ⟨hcw, hfw⟩ := bcell hbw; have Hw1 := Lib.hid ((show Below w.heap.size w _ from (by repeat (first | exact Below.refl _ _ | assumption | refine below_drewN ?_ _ | refine Below.drew ?_ | refine Below.setCell ?_ (by first | omega | (simp; done) | (simp; omega)) _ | refine Below.alloc ?_ (by first | omega | (simp; done) | (simp; omega)) _))).trans (hbw.mono (by first | omega | (simp; done) | (simp; omega)))); have z0 : w.heap.size < w.heap.size + 1 + 1 := (by omega); clear hbw)
  go_ret
  exact ⟨rfl, Hw1.out⟩
set_option maxRecDepth 100000 in
set_option maxHeartbeats 1000000 in
theorem rSame_9 (a b : Alr) (A : Option Addr) (c : Nat) (D : Option Addr) (d : Nat) (w : World) (ha : AIn w a A c) (hb : AIn w b D d) (h0 : (a.ev.toList == b.ev.toList) = true) (h1 : (a.ver == b.ver) = true) (h2 : (a.tm == b.tm) = true) (h3 : (a.n == b.n) = true) (h4 : (a.of == b.of) = true) (h5 : (a.grid == b.grid) = true) (h6 : (a.cells == b.cells) = true) (h7 : (a.wd == b.wd) = true) (h8 : (a.before == b.before) = true) :
    Calls Tryz.prog 46 #[a.val A c, b.val D d] w fun e w' => e = .returned (.bool true) ∧ Below w.heap.size w w' := by
  have HA := Lib.hid ha
  have HB := Lib.hid hb
  have HC := Lib.hid h6
  clear ha hb
  go_enter Tryz.func46, Tryz.ntmps46
  go_wp2_with (go_at_call 12; refine (SameInts_is a.cells b.cells A c D d _ true HC.out (HA.out.below (by (repeat (first | exact Below.refl _ _ | assumption | refine below_drewN ?_ _ | refine Below.drew ?_ | refine Below.setCell ?_ (by first | omega | (simp; done) | (simp; omega)) _ | refine Below.alloc ?_ (by first | omega | (simp; done) | (simp; omega)) _)))).sl (HB.out.below (by (repeat (first | exact Below.refl _ _ | assumption | refine below_drewN ?_ _ | refine Below.drew ?_ | refine Below.setCell ?_ (by first | omega | (simp; done) | (simp; omega)) _ | refine Below.alloc ?_ (by first | omega | (simp; done) | (simp; omega)) _)))).sl).mono ?_; rintro e w1 ⟨rfl, hbw⟩; obtain ⟨hcw, hfw⟩ := bcell hbw; have Hw1 := Lib.hid ((show Below w.heap.size w _ from (by repeat (first | exact Below.refl _ _ | assumption | refine below_drewN ?_ _ | refine Below.drew ?_ | refine Below.setCell ?_ (by first | omega | (simp; done) | (simp; omega)) _ | refine Below.alloc ?_ (by first | omega | (simp; done) | (simp; omega)) _))).trans (hbw.mono (by first | omega | (simp; done) | (simp; omega)))); have z0 : w.heap.size < w.heap.size + 1 + 1 := (by omega); clear hbw)
  go_ret
  exact ⟨rfl, Hw1.out⟩
theorem rSame_ (a b : Alr) (A : Option Addr) (c : Nat) (D : Option Addr) (d : Nat) (w : World) (ha : AIn w a A c) (hb : AIn w b D d) :
    Calls Tryz.prog 46 #[a.val A c, b.val D d] w fun e w' => e = .returned (.bool (sameB a b)) ∧ Below w.heap.size w w' := by
  by_cases h0 : (a.ev.toList == b.ev.toList) = true
  · by_cases h1 : (a.ver == b.ver) = true
    · by_cases h2 : (a.tm == b.tm) = true
      · by_cases h3 : (a.n == b.n) = true
        · by_cases h4 : (a.of == b.of) = true
          · by_cases h5 : (a.grid == b.grid) = true
            · by_cases h6 : (a.cells == b.cells) = true
              · by_cases h7 : (a.wd == b.wd) = true
                · by_cases h8 : (a.before == b.before) = true
                  · rw [show sameB a b = true by unfold sameB; simp [h0, h1, h2, h3, h4, h5, h6, h7, h8]]
                    exact rSame_9 a b A c D d w ha hb h0 h1 h2 h3 h4 h5 h6 h7 h8
                  · have h8' : (a.before == b.before) = false := by simpa using h8
                    rw [show sameB a b = false by unfold sameB; simp only [h0, h1, h2, h3, h4, h5, h6, h7, h8', Bool.and_false]]
                    exact rSame_8 a b A c D d w ha hb h0 h1 h2 h3 h4 h5 h6 h7 h8'
                · have h7' : (a.wd == b.wd) = false := by simpa using h7
                  rw [show sameB a b = false by unfold sameB; simp only [h0, h1, h2, h3, h4, h5, h6, h7', Bool.false_and, Bool.and_false]]
                  exact rSame_7 a b A c D d w ha hb h0 h1 h2 h3 h4 h5 h6 h7'
              · have h6' : (a.cells == b.cells) = false := by simpa using h6
                rw [show sameB a b = false by unfold sameB; simp only [h0, h1, h2, h3, h4, h5, h6', Bool.false_and, Bool.and_false]]
                exact rSame_6 a b A c D d w ha hb h0 h1 h2 h3 h4 h5 h6'
            · have h5' : (a.grid == b.grid) = false := by simpa using h5
              rw [show sameB a b = false by unfold sameB; simp only [h0, h1, h2, h3, h4, h5', Bool.false_and, Bool.and_false]]
              exact rSame_5 a b A c D d w ha hb h0 h1 h2 h3 h4 h5'
          · have h4' : (a.of == b.of) = false := by simpa using h4
            rw [show sameB a b = false by unfold sameB; simp only [h0, h1, h2, h3, h4', Bool.false_and, Bool.and_false]]
            exact rSame_4 a b A c D d w ha hb h0 h1 h2 h3 h4'
        · have h3' : (a.n == b.n) = false := by simpa using h3
          rw [show sameB a b = false by unfold sameB; simp only [h0, h1, h2, h3', Bool.false_and, Bool.and_false]]
          exact rSame_3 a b A c D d w ha hb h0 h1 h2 h3'
      · have h2' : (a.tm == b.tm) = false := by simpa using h2
        rw [show sameB a b = false by unfold sameB; simp only [h0, h1, h2', Bool.false_and, Bool.and_false]]
        exact rSame_2 a b A c D d w ha hb h0 h1 h2'
    · have h1' : (a.ver == b.ver) = false := by simpa using h1
      rw [show sameB a b = false by unfold sameB; simp only [h0, h1', Bool.false_and, Bool.and_false]]
      exact rSame_1 a b A c D d w ha hb h0 h1'
  · have h0' : (a.ev.toList == b.ev.toList) = false := by simpa using h0
    rw [show sameB a b = false by unfold sameB; simp only [h0', Bool.false_and]]
    exact rSame_0 a b A c D d w ha hb  h0'
set_option maxRecDepth 100000 in
theorem same_is (a b : Alr) (A : Option Addr) (c : Nat) (D : Option Addr) (d : Nat) (w : World) (ha : AIn w a A c) (hb : AIn w b D d) (v : Bool) (hv : sameB a b = v) :
    Calls Tryz.prog 17 #[a.val A c, b.val D d] w fun e w' => e = .returned (.bool v) ∧ Below w.heap.size w w' := by
  have HA := Lib.hid ha
  have HB := Lib.hid hb
  have HV := Lib.hid hv
  clear ha hb hv
  go_enter Tryz.func17, Tryz.ntmps17
  go_wp2_with fail
  refine (rSame_ a b A c D d _ (HA.out.below (by (repeat (first | exact Below.refl _ _ | assumption | refine below_drewN ?_ _ | refine Below.drew ?_ | refine Below.setCell ?_ (by first | omega | (simp; done) | (simp; omega)) _ | refine Below.alloc ?_ (by first | omega | (simp; done) | (simp; omega)) _)))) (HB.out.below (by (repeat (first | exact Below.refl _ _ | assumption | refine below_drewN ?_ _ | refine Below.drew ?_ | refine Below.setCell ?_ (by first | omega | (simp; done) | (simp; omega)) _ | refine Below.alloc ?_ (by first | omega | (simp; done) | (simp; omega)) _))))).mono ?_
  rintro e w1 ⟨rfl, hbw⟩
  rw [HV.out]
  have Hw1 := Lib.hid ((show Below w.heap.size w _ from (by repeat (first | exact Below.refl _ _ | assumption | refine below_drewN ?_ _ | refine Below.drew ?_ | refine Below.setCell ?_ (by first | omega | (simp; done) | (simp; omega)) _ | refine Below.alloc ?_ (by first | omega | (simp; done) | (simp; omega)) _))).trans (hbw.mono (by first | omega | (simp; done) | (simp; omega))))
  clear hbw
  go_wp2_with fail
  go_ret
  exact ⟨rfl, Hw1.out⟩
end Go.Proofs.YtmpbhngjkbidcaaGreatDoor
