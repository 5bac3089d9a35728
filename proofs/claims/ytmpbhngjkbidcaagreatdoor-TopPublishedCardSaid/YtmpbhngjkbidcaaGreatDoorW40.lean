/-
  The walks of slices.Equal, for ints, and of Same of the program.
-/
import Derived.Test.YtmpbhngjkbidcaaGreatDoorW38
namespace Go.Proofs.YtmpbhngjkbidcaaGreatDoor
open Go.RowKit Al

set_option maxRecDepth 100000 in
set_option maxHeartbeats 1000000 in
theorem slEqual_ (l m : List Int) (A : Option Addr) (c : Nat) (D : Option Addr) (d : Nat) (w : World) (h : Sl w w.heap.size 1 A l.length c (ints l)) (h' : Sl w w.heap.size 1 D m.length d (ints m)) :
    Calls Tryz.prog 58 #[.slice A l.length c, .slice D m.length d] w fun e w' => e = .returned (.bool (l == m)) ∧ ∃ n, w' = w.drewN n := by
  have hl : l.length ≤ maxLen := Nat.le_trans h.cap h.max
  have hm : m.length ≤ maxLen := Nat.le_trans h'.cap h'.max
  unfold maxLen at hl hm
  by_cases hlen : l.length = m.length
  · have t1 : ((l.length : Int) != (m.length : Int)) = false := by simp [hlen]
    have HL := Lib.hid hlen
    have hlm : l.length ≤ m.length := by omega
    clear hlen
    go_enter Tryz.func58, Tryz.ntmps58
    go_wp2_with fail
    go_loopw [13] (fun i wr => SiRel l m i ∧ ∃ n, wr = w.drewN n) (fun i _ => l.length - (intOf i).toNat)
    case atStart => exact ⟨⟨0, Nat.zero_le _, rfl, by show _ = _; rw [List.take_zero, List.take_zero]⟩, 0, rfl⟩
    case round =>
      obtain ⟨⟨k, hk, rfl, hp⟩, n, rfl⟩ := hrel
      by_cases hlt : k < l.length
      · have hlt2 : k < m.length := by omega
        obtain ⟨b1, o1, rfl, hb1, hc1⟩ := h.int_at hlt hlt
        obtain ⟨b2, o2, rfl, hb2, hc2⟩ := h'.int_at hlt2 hlt2
        have i0 : (0 : Int) ≤ (k : Int) := by omega
        have i1 : (k : Int) < (l.length : Int) := by omega
        have i2 : (k : Int) < (m.length : Int) := by omega
        by_cases he : l[k] = m[k]
        · have t2 : (l[k] != m[k]) = false := by simp [he]
          have HX := Lib.hid (si_step hlt hlt2 he hp.out)
          clear he
          go_wp2_with fail
          go_quiet (fail)
          go_wp2_with fail
          go_roundw
          case rel => exact ⟨⟨k + 1, by omega, by go_num, HX.out⟩, _, rfl⟩
          case measure => simp [intOf]; omega
        · have t2 : (l[k] != m[k]) = true := by simp [he]
          have HX := Lib.hid (si_at hlt hlt2 he)
          clear he
          go_wp2_with fail
          go_quiet (fail)
          go_wp2_with fail
          go_ret
          exact ⟨ret_bool HX.out.symm, _, by rw [World.drewN_drewN]⟩
      · obtain rfl : k = l.length := by omega
        have HX := Lib.hid (si_end HL.out hp.out)
        go_wp2_with fail
        go_ret
        exact ⟨ret_bool HX.out.symm, n, rfl⟩
  · have t1 : ((l.length : Int) != (m.length : Int)) = true := by simp; omega
    have HX := Lib.hid (si_len hlen)
    clear hlen
    go_enter Tryz.func58, Tryz.ntmps58
    go_wp2_with fail
    go_ret
    exact ⟨ret_bool HX.out.symm, 0, rfl⟩
theorem slEqual_is (l m : List Int) (A : Option Addr) (c : Nat) (D : Option Addr) (d : Nat) (w : World) (b : Bool) (hb : (l == m) = b) (h : Sl w w.heap.size 1 A l.length c (ints l)) (h' : Sl w w.heap.size 1 D m.length d (ints m)) :
    Calls Tryz.prog 58 #[.slice A l.length c, .slice D m.length d] w fun e w' => e = .returned (.bool b) ∧ Below w.heap.size w w' :=
  (slEqual_ l m A c D d w h h').mono fun e w' ⟨he, n, hw⟩ => ⟨by rw [he, hb], by rw [hw]; exact below_drewN (Below.refl _ _) n⟩
set_option maxRecDepth 100000 in
set_option maxHeartbeats 1000000 in
theorem pSame_0 (a b : Alr) (A : Option Addr) (c : Nat) (D : Option Addr) (d : Nat) (w : World) (ha : AIn w a A c) (hb : AIn w b D d) (h0 : (a.cells == b.cells) = false) :
    Calls Tryz.prog 24 #[a.val A c, b.val D d] w fun e w' => e = .returned (.bool false) ∧ Below w.heap.size w w' := by
  have HA := Lib.hid ha
  have HB := Lib.hid hb
  have HC := Lib.hid h0
  clear ha hb h0
  go_enter Tryz.func24, Tryz.ntmps24
  go_wp2_with (go_at_call 58; refine (slEqual_is a.cells b.cells A c D d _ false HC.out (HA.out.below (by (repeat (first | exact Below.refl _ _ | assumption | refine below_drewN ?_ _ | refine Below.drew ?_ | refine Below.setCell ?_ (by first | omega | (simp; done) | (simp; omega)) _ | refine Below.alloc ?_ (by first | omega | (simp; done) | (simp; omega)) _)))).sl (HB.out.below (by (repeat (first | exact Below.refl _ _ | assumption | refine below_drewN ?_ _ | refine Below.drew ?_ | refine Below.setCell ?_ (by first | omega | (simp; done) | (simp; omega)) _ | refine Below.alloc ?_ (by first | omega | (simp; done) | (simp; omega)) _)))).sl).mono ?_; rintro e w1 ⟨rfl, hbw⟩; obtain ⟨hcw, hfw⟩ := bcell hbw; have Hw1 := Lib.hid ((show Below w.heap.size w _ from (by repeat (first | exact Below.refl _ _ | assumption | refine below_drewN ?_ _ | refine Below.drew ?_ | refine Below.setCell ?_ (by first | omega | (simp; done) | (simp; omega)) _ | refine Below.alloc ?_ (by first | omega | (simp; done) | (simp; omega)) _))).trans (hbw.mono (by first | omega | (simp; done) | (simp; omega)))); have z0 : w.heap.size < w.heap.size + 1 + 1 := (by omega); have z1 := hbw.size; (try simp at z1); have z2 : w.heap.size < w1.heap.size := (by omega); have z3 : w.heap.size + 1 < w1.heap.size := (by omega); clear hbw)
  go_ret
  exact ⟨rfl, (by repeat (first | exact Below.refl _ _ | exact (Hw1).out | refine below_drewN ?_ _ | refine Below.drew ?_ | refine Below.setCell ?_ (by first | omega | (simp; done) | (simp; omega)) _ | refine Below.alloc ?_ (by first | omega | (simp; done) | (simp; omega)) _))⟩
set_option maxRecDepth 100000 in
set_option maxHeartbeats 1000000 in
theorem pSame_1 (a b : Alr) (A : Option Addr) (c : Nat) (D : Option Addr) (d : Nat) (w : World) (ha : AIn w a A c) (hb : AIn w b D d) (h0 : (a.cells == b.cells) = true) (h1 : (a.ev.toList == b.ev.toList) = false) :
    Calls Tryz.prog 24 #[a.val A c, b.val D d] w fun e w' => e = .returned (.bool false) ∧ Below w.heap.size w w' := by
  have HA := Lib.hid ha
  have HB := Lib.hid hb
  have HC := Lib.hid h0
  clear ha hb h0
  go_enter Tryz.func24, Tryz.ntmps24
  go_wp2_with (go_at_call 58; refine (slEqual_is a.cells b.cells A c D d _ true HC.out (HA.out.below (by (repeat (first | exact Below.refl _ _ | assumption | refine below_drewN ?_ _ | refine Below.drew ?_ | refine Below.setCell ?_ (by first | omega | (simp; done) | (simp; omega)) _ | refine Below.alloc ?_ (by first | omega | (simp; done) | (simp; omega)) _)))).sl (HB.out.below (by (repeat (first | exact Below.refl _ _ | assumption | refine below_drewN ?_ _ | refine Below.drew ?_ | refine Below.setCell ?_ (by first | omega | (simp; done) | (simp; omega)) _ | refine Below.alloc ?_ (by first | omega | (simp; done) | (simp; omega)) _)))).sl).mono ?_; rintro e w1 ⟨rfl, hbw⟩; obtain ⟨hcw, hfw⟩ := bcell hbw; have Hw1 := Lib.hid ((show Below w.heap.size w _ from (by repeat (first | exact Below.refl _ _ | assumption | refine below_drewN ?_ _ | refine Below.drew ?_ | refine Below.setCell ?_ (by first | omega | (simp; done) | (simp; omega)) _ | refine Below.alloc ?_ (by first | omega | (simp; done) | (simp; omega)) _))).trans (hbw.mono (by first | omega | (simp; done) | (simp; omega)))); have z0 : w.heap.size < w.heap.size + 1 + 1 := (by omega); have z1 := hbw.size; (try simp at z1); have z2 : w.heap.size < w1.heap.size := (by omega); have z3 : w.heap.size + 1 < w1.heap.size := (by omega); clear hbw)
  go_ret
  exact ⟨rfl, (by repeat (first | exact Below.refl _ _ | exact (Hw1).out | refine below_drewN ?_ _ | refine Below.drew ?_ | refine Below.setCell ?_ (by first | omega | (simp; done) | (simp; omega)) _ | refine Below.alloc ?_ (by first | omega | (simp; done) | (simp; omega)) _))⟩
set_option maxRecDepth 100000 in
set_option maxHeartbeats 1000000 in
theorem pSame_2 (a b : Alr) (A : Option Addr) (c : Nat) (D : Option Addr) (d : Nat) (w : World) (ha : AIn w a A c) (hb : AIn w b D d) (h0 : (a.cells == b.cells) = true) (h1 : (a.ev.toList == b.ev.toList) = true) (h2 : (a.ver == b.ver) = false) :
    Calls Tryz.prog 24 #[a.val A c, b.val D d] w fun e w' => e = .returned (.bool false) ∧ Below w.heap.size w w' := by
  have HA := Lib.hid ha
  have HB := Lib.hid hb
  have HC := Lib.hid h0
  clear ha hb h0
  go_enter Tryz.func24, Tryz.ntmps24
  go_wp2_with (go_at_call 58; refine (slEqual_is a.cells b.cells A c D d _ true HC.out (HA.out.below (by (repeat (first | exact Below.refl _ _ | assumption | refine below_drewN ?_ _ | refine Below.drew ?_ | refine Below.setCell ?_ (by first | omega | (simp; done) | (simp; omega)) _ | refine Below.alloc ?_ (by first | omega | (simp; done) | (simp; omega)) _)))).sl (HB.out.below (by (repeat (first | exact Below.refl _ _ | assumption | refine below_drewN ?_ _ | refine Below.drew ?_ | refine Below.setCell ?_ (by first | omega | (simp; done) | (simp; omega)) _ | refine Below.alloc ?_ (by first | omega | (simp; done) | (simp; omega)) _)))).sl).mono ?_; rintro e w1 ⟨rfl, hbw⟩; obtain ⟨hcw, hfw⟩ := bcell hbw; have Hw1 := Lib.hid ((show Below w.heap.size w _ from (by repeat (first | exact Below.refl _ _ | assumption | refine below_drewN ?_ _ | refine Below.drew ?_ | refine Below.setCell ?_ (by first | omega | (simp; done) | (simp; omega)) _ | refine Below.alloc ?_ (by first | omega | (simp; done) | (simp; omega)) _))).trans (hbw.mono (by first | omega | (simp; done) | (simp; omega)))); have z0 : w.heap.size < w.heap.size + 1 + 1 := (by omega); have z1 := hbw.size; (try simp at z1); have z2 : w.heap.size < w1.heap.size := (by omega); have z3 : w.heap.size + 1 < w1.heap.size := (by omega); clear hbw)
  go_ret
  exact ⟨rfl, (by repeat (first | exact Below.refl _ _ | exact (Hw1).out | refine below_drewN ?_ _ | refine Below.drew ?_ | refine Below.setCell ?_ (by first | omega | (simp; done) | (simp; omega)) _ | refine Below.alloc ?_ (by first | omega | (simp; done) | (simp; omega)) _))⟩
set_option maxRecDepth 100000 in
set_option maxHeartbeats 1000000 in
theorem pSame_3 (a b : Alr) (A : Option Addr) (c : Nat) (D : Option Addr) (d : Nat) (w : World) (ha : AIn w a A c) (hb : AIn w b D d) (h0 : (a.cells == b.cells) = true) (h1 : (a.ev.toList == b.ev.toList) = true) (h2 : (a.ver == b.ver) = true) (h3 : (a.tm == b.tm) = false) :
    Calls Tryz.prog 24 #[a.val A c, b.val D d] w fun e w' => e = .returned (.bool false) ∧ Below w.heap.size w w' := by
  have HA := Lib.hid ha
  have HB := Lib.hid hb
  have HC := Lib.hid h0
  clear ha hb h0
  go_enter Tryz.func24, Tryz.ntmps24
  go_wp2_with (go_at_call 58; refine (slEqual_is a.cells b.cells A c D d _ true HC.out (HA.out.below (by (repeat (first | exact Below.refl _ _ | assumption | refine below_drewN ?_ _ | refine Below.drew ?_ | refine Below.setCell ?_ (by first | omega | (simp; done) | (simp; omega)) _ | refine Below.alloc ?_ (by first | omega | (simp; done) | (simp; omega)) _)))).sl (HB.out.below (by (repeat (first | exact Below.refl _ _ | assumption | refine below_drewN ?_ _ | refine Below.drew ?_ | refine Below.setCell ?_ (by first | omega | (simp; done) | (simp; omega)) _ | refine Below.alloc ?_ (by first | omega | (simp; done) | (simp; omega)) _)))).sl).mono ?_; rintro e w1 ⟨rfl, hbw⟩; obtain ⟨hcw, hfw⟩ := bcell hbw; have Hw1 := Lib.hid ((show Below w.heap.size w _ from (by repeat (first | exact Below.refl _ _ | assumption | refine below_drewN ?_ _ | refine Below.drew ?_ | refine Below.setCell ?_ (by first | omega | (simp; done) | (simp; omega)) _ | refine Below.alloc ?_ (by first | omega | (simp; done) | (simp; omega)) _))).trans (hbw.mono (by first | omega | (simp; done) | (simp; omega)))); have z0 : w.heap.size < w.heap.size + 1 + 1 := (by omega); have z1 := hbw.size; (try simp at z1); have z2 : w.heap.size < w1.heap.size := (by omega); have z3 : w.heap.size + 1 < w1.heap.size := (by omega); clear hbw)
  go_ret
  exact ⟨rfl, (by repeat (first | exact Below.refl _ _ | exact (Hw1).out | refine below_drewN ?_ _ | refine Below.drew ?_ | refine Below.setCell ?_ (by first | omega | (simp; done) | (simp; omega)) _ | refine Below.alloc ?_ (by first | omega | (simp; done) | (simp; omega)) _))⟩
set_option maxRecDepth 100000 in
set_option maxHeartbeats 1000000 in
theorem pSame_4 (a b : Alr) (A : Option Addr) (c : Nat) (D : Option Addr) (d : Nat) (w : World) (ha : AIn w a A c) (hb : AIn w b D d) (h0 : (a.cells == b.cells) = true) (h1 : (a.ev.toList == b.ev.toList) = true) (h2 : (a.ver == b.ver) = true) (h3 : (a.tm == b.tm) = true) (h4 : (a.n == b.n) = false) :
    Calls Tryz.prog 24 #[a.val A c, b.val D d] w fun e w' => e = .returned (.bool false) ∧ Below w.heap.size w w' := by
  have HA := Lib.hid ha
  have HB := Lib.hid hb
  have HC := Lib.hid h0
  clear ha hb h0
  go_enter Tryz.func24, Tryz.ntmps24
  go_wp2_with (go_at_call 58; refine (slEqual_is a.cells b.cells A c D d _ true HC.out (HA.out.below (by (repeat (first | exact Below.refl _ _ | assumption | refine below_drewN ?_ _ | refine Below.drew ?_ | refine Below.setCell ?_ (by first | omega | (simp; done) | (simp; omega)) _ | refine Below.alloc ?_ (by first | omega | (simp; done) | (simp; omega)) _)))).sl (HB.out.below (by (repeat (first | exact Below.refl _ _ | assumption | refine below_drewN ?_ _ | refine Below.drew ?_ | refine Below.setCell ?_ (by first | omega | (simp; done) | (simp; omega)) _ | refine Below.alloc ?_ (by first | omega | (simp; done) | (simp; omega)) _)))).sl).mono ?_; rintro e w1 ⟨rfl, hbw⟩; obtain ⟨hcw, hfw⟩ := bcell hbw; have Hw1 := Lib.hid ((show Below w.heap.size w _ from (by repeat (first | exact Below.refl _ _ | assumption | refine below_drewN ?_ _ | refine Below.drew ?_ | refine Below.setCell ?_ (by first | omega | (simp; done) | (simp; omega)) _ | refine Below.alloc ?_ (by first | omega | (simp; done) | (simp; omega)) _))).trans (hbw.mono (by first | omega | (simp; done) | (simp; omega)))); have z0 : w.heap.size < w.heap.size + 1 + 1 := (by omega); have z1 := hbw.size; (try simp at z1); have z2 : w.heap.size < w1.heap.size := (by omega); have z3 : w.heap.size + 1 < w1.heap.size := (by omega); clear hbw)
  go_ret
  exact ⟨rfl, (by repeat (first | exact Below.refl _ _ | exact (Hw1).out | refine below_drewN ?_ _ | refine Below.drew ?_ | refine Below.setCell ?_ (by first | omega | (simp; done) | (simp; omega)) _ | refine Below.alloc ?_ (by first | omega | (simp; done) | (simp; omega)) _))⟩
set_option maxRecDepth 100000 in
set_option maxHeartbeats 1000000 in
theorem pSame_5 (a b : Alr) (A : Option Addr) (c : Nat) (D : Option Addr) (d : Nat) (w : World) (ha : AIn w a A c) (hb : AIn w b D d) (h0 : (a.cells == b.cells) = true) (h1 : (a.ev.toList == b.ev.toList) = true) (h2 : (a.ver == b.ver) = true) (h3 : (a.tm == b.tm) = true) (h4 : (a.n == b.n) = true) (h5 : (a.of == b.of) = false) :
    Calls Tryz.prog 24 #[a.val A c, b.val D d] w fun e w' => e = .returned (.bool false) ∧ Below w.heap.size w w' := by
  have HA := Lib.hid ha
  have HB := Lib.hid hb
  have HC := Lib.hid h0
  clear ha hb h0
  go_enter Tryz.func24, Tryz.ntmps24
  go_wp2_with (go_at_call 58; refine (slEqual_is a.cells b.cells A c D d _ true HC.out (HA.out.below (by (repeat (first | exact Below.refl _ _ | assumption | refine below_drewN ?_ _ | refine Below.drew ?_ | refine Below.setCell ?_ (by first | omega | (simp; done) | (simp; omega)) _ | refine Below.alloc ?_ (by first | omega | (simp; done) | (simp; omega)) _)))).sl (HB.out.below (by (repeat (first | exact Below.refl _ _ | assumption | refine below_drewN ?_ _ | refine Below.drew ?_ | refine Below.setCell ?_ (by first | omega | (simp; done) | (simp; omega)) _ | refine Below.alloc ?_ (by first | omega | (simp; done) | (simp; omega)) _)))).sl).mono ?_; rintro e w1 ⟨rfl, hbw⟩; obtain ⟨hcw, hfw⟩ := bcell hbw; have Hw1 := Lib.hid ((show Below w.heap.size w _ from (by repeat (first | exact Below.refl _ _ | assumption | refine below_drewN ?_ _ | refine Below.drew ?_ | refine Below.setCell ?_ (by first | omega | (simp; done) | (simp; omega)) _ | refine Below.alloc ?_ (by first | omega | (simp; done) | (simp; omega)) _))).trans (hbw.mono (by first | omega | (simp; done) | (simp; omega)))); have z0 : w.heap.size < w.heap.size + 1 + 1 := (by omega); have z1 := hbw.size; (try simp at z1); have z2 : w.heap.size < w1.heap.size := (by omega); have z3 : w.heap.size + 1 < w1.heap.size := (by omega); clear hbw)
  go_ret
  exact ⟨rfl, (by repeat (first | exact Below.refl _ _ | exact (Hw1).out | refine below_drewN ?_ _ | refine Below.drew ?_ | refine Below.setCell ?_ (by first | omega | (simp; done) | (simp; omega)) _ | refine Below.alloc ?_ (by first | omega | (simp; done) | (simp; omega)) _))⟩
set_option maxRecDepth 100000 in
set_option maxHeartbeats 1000000 in
theorem pSame_6 (a b : Alr) (A : Option Addr) (c : Nat) (D : Option Addr) (d : Nat) (w : World) (ha : AIn w a A c) (hb : AIn w b D d) (h0 : (a.cells == b.cells) = true) (h1 : (a.ev.toList == b.ev.toList) = true) (h2 : (a.ver == b.ver) = true) (h3 : (a.tm == b.tm) = true) (h4 : (a.n == b.n) = true) (h5 : (a.of == b.of) = true) (h6 : (a.grid == b.grid) = false) :
    Calls Tryz.prog 24 #[a.val A c, b.val D d] w fun e w' => e = .returned (.bool false) ∧ Below w.heap.size w w' := by
  have HA := Lib.hid ha
  have HB := Lib.hid hb
  have HC := Lib.hid h0
  clear ha hb h0
  go_enter Tryz.func24, Tryz.ntmps24
  go_wp2_with (go_at_call 58; refine (slEqual_is a.cells b.cells A c D d _ true HC.out (HA.out.below (by (repeat (first | exact Below.refl _ _ | assumption | refine below_drewN ?_ _ | refine Below.drew ?_ | refine Below.setCell ?_ (by first | omega | (simp; done) | (simp; omega)) _ | refine Below.alloc ?_ (by first | omega | (simp; done) | (simp; omega)) _)))).sl (HB.out.below (by (repeat (first | exact Below.refl _ _ | assumption | refine below_drewN ?_ _ | refine Below.drew ?_ | refine Below.setCell ?_ (by first | omega | (simp; done) | (simp; omega)) _ | refine Below.alloc ?_ (by first | omega | (simp; done) | (simp; omega)) _)))).sl).mono ?_; rintro e w1 ⟨rfl, hbw⟩; obtain ⟨hcw, hfw⟩ := bcell hbw; have Hw1 := Lib.hid ((show Below w.heap.size w _ from (by repeat (first | exact Below.refl _ _ | assumption | refine below_drewN ?_ _ | refine Below.drew ?_ | refine Below.setCell ?_ (by first | omega | (simp; done) | (simp; omega)) _ | refine Below.alloc ?_ (by first | omega | (simp; done) | (simp; omega)) _))).trans (hbw.mono (by first | omega | (simp; done) | (simp; omega)))); have z0 : w.heap.size < w.heap.size + 1 + 1 := (by omega); have z1 := hbw.size; (try simp at z1); have z2 : w.heap.size < w1.heap.size := (by omega); have z3 : w.heap.size + 1 < w1.heap.size := (by omega); clear hbw)
  go_ret
  exact ⟨rfl, (by repeat (first | exact Below.refl _ _ | exact (Hw1).out | refine below_drewN ?_ _ | refine Below.drew ?_ | refine Below.setCell ?_ (by first | omega | (simp; done) | (simp; omega)) _ | refine Below.alloc ?_ (by first | omega | (simp; done) | (simp; omega)) _))⟩
set_option maxRecDepth 100000 in
set_option maxHeartbeats 1000000 in
theorem pSame_7 (a b : Alr) (A : Option Addr) (c : Nat) (D : Option Addr) (d : Nat) (w : World) (ha : AIn w a A c) (hb : AIn w b D d) (h0 : (a.cells == b.cells) = true) (h1 : (a.ev.toList == b.ev.toList) = true) (h2 : (a.ver == b.ver) = true) (h3 : (a.tm == b.tm) = true) (h4 : (a.n == b.n) = true) (h5 : (a.of == b.of) = true) (h6 : (a.grid == b.grid) = true) (h7 : (a.wd == b.wd) = false) :
    Calls Tryz.prog 24 #[a.val A c, b.val D d] w fun e w' => e = .returned (.bool false) ∧ Below w.heap.size w w' := by
  have HA := Lib.hid ha
  have HB := Lib.hid hb
  have HC := Lib.hid h0
  clear ha hb h0
  go_enter Tryz.func24, Tryz.ntmps24
  go_wp2_with (go_at_call 58; refine (slEqual_is a.cells b.cells A c D d _ true HC.out (HA.out.below (by (repeat (first | exact Below.refl _ _ | assumption | refine below_drewN ?_ _ | refine Below.drew ?_ | refine Below.setCell ?_ (by first | omega | (simp; done) | (simp; omega)) _ | refine Below.alloc ?_ (by first | omega | (simp; done) | (simp; omega)) _)))).sl (HB.out.below (by (repeat (first | exact Below.refl _ _ | assumption | refine below_drewN ?_ _ | refine Below.drew ?_ | refine Below.setCell ?_ (by first | omega | (simp; done) | (simp; omega)) _ | refine Below.alloc ?_ (by first | omega | (simp; done) | (simp; omega)) _)))).sl).mono ?_; rintro e w1 ⟨rfl, hbw⟩; obtain ⟨hcw, hfw⟩ := bcell hbw; have Hw1 := Lib.hid ((show Below w.heap.size w _ from (by repeat (first | exact Below.refl _ _ | assumption | refine below_drewN ?_ _ | refine Below.drew ?_ | refine Below.setCell ?_ (by first | omega | (simp; done) | (simp; omega)) _ | refine Below.alloc ?_ (by first | omega | (simp; done) | (simp; omega)) _))).trans (hbw.mono (by first | omega | (simp; done) | (simp; omega)))); have z0 : w.heap.size < w.heap.size + 1 + 1 := (by omega); have z1 := hbw.size; (try simp at z1); have z2 : w.heap.size < w1.heap.size := (by omega); have z3 : w.heap.size + 1 < w1.heap.size := (by omega); clear hbw)
  go_ret
  exact ⟨rfl, (by repeat (first | exact Below.refl _ _ | exact (Hw1).out | refine below_drewN ?_ _ | refine Below.drew ?_ | refine Below.setCell ?_ (by first | omega | (simp; done) | (simp; omega)) _ | refine Below.alloc ?_ (by first | omega | (simp; done) | (simp; omega)) _))⟩
set_option maxRecDepth 100000 in
set_option maxHeartbeats 1000000 in
theorem pSame_8 (a b : Alr) (A : Option Addr) (c : Nat) (D : Option Addr) (d : Nat) (w : World) (ha : AIn w a A c) (hb : AIn w b D d) (h0 : (a.cells == b.cells) = true) (h1 : (a.ev.toList == b.ev.toList) = true) (h2 : (a.ver == b.ver) = true) (h3 : (a.tm == b.tm) = true) (h4 : (a.n == b.n) = true) (h5 : (a.of == b.of) = true) (h6 : (a.grid == b.grid) = true) (h7 : (a.wd == b.wd) = true) (h8 : (a.before == b.before) = false) :
    Calls Tryz.prog 24 #[a.val A c, b.val D d] w fun e w' => e = .returned (.bool false) ∧ Below w.heap.size w w' := by
  have HA := Lib.hid ha
  have HB := Lib.hid hb
  have HC := Lib.hid h0
  clear ha hb h0
  go_enter Tryz.func24, Tryz.ntmps24
  go_wp2_with (go_at_call 58; refine (slEqual_is a.cells b.cells A c D d _ true HC.out (HA.out.below (by (repeat (first | exact Below.refl _ _ | assumption | refine below_drewN ?_ _ | refine Below.drew ?_ | refine Below.setCell ?_ (by first | omega | (simp; done) | (simp; omega)) _ | refine Below.alloc ?_ (by first | omega | (simp; done) | (simp; omega)) _)))).sl (HB.out.below (by (repeat (first | exact Below.refl _ _ | assumption | refine below_drewN ?_ _ | refine Below.drew ?_ | refine Below.setCell ?_ (by first | omega | (simp; done) | (simp; omega)) _ | refine Below.alloc ?_ (by first | omega | (simp; done) | (simp; omega)) _)))).sl).mono ?_; rintro e w1 ⟨rfl, hbw⟩; obtain ⟨hcw, hfw⟩ := bcell hbw; have Hw1 := Lib.hid ((show Below w.heap.size w _ from (by repeat (first | exact Below.refl _ _ | assumption | refine below_drewN ?_ _ | refine Below.drew ?_ | refine Below.setCell ?_ (by first | omega | (simp; done) | (simp; omega)) _ | refine Below.alloc ?_ (by first | omega | (simp; done) | (simp; omega)) _))).trans (hbw.mono (by first | omega | (simp; done) | (simp; omega)))); have z0 : w.heap.size < w.heap.size + 1 + 1 := (by omega); have z1 := hbw.size; (try simp at z1); have z2 : w.heap.size < w1.heap.size := (by omega); have z3 : w.heap.size + 1 < w1.heap.size := (by omega); clear hbw)
  go_ret
  exact ⟨rfl, (by repeat (first | exact Below.refl _ _ | exact (Hw1).out | refine below_drewN ?_ _ | refine Below.drew ?_ | refine Below.setCell ?_ (by first | omega | (simp; done) | (simp; omega)) _ | refine Below.alloc ?_ (by first | omega | (simp; done) | (simp; omega)) _))⟩
set_option maxRecDepth 100000 in
set_option maxHeartbeats 1000000 in
theorem pSame_9 (a b : Alr) (A : Option Addr) (c : Nat) (D : Option Addr) (d : Nat) (w : World) (ha : AIn w a A c) (hb : AIn w b D d) (h0 : (a.cells == b.cells) = true) (h1 : (a.ev.toList == b.ev.toList) = true) (h2 : (a.ver == b.ver) = true) (h3 : (a.tm == b.tm) = true) (h4 : (a.n == b.n) = true) (h5 : (a.of == b.of) = true) (h6 : (a.grid == b.grid) = true) (h7 : (a.wd == b.wd) = true) (h8 : (a.before == b.before) = true) :
    Calls Tryz.prog 24 #[a.val A c, b.val D d] w fun e w' => e = .returned (.bool true) ∧ Below w.heap.size w w' := by
  have HA := Lib.hid ha
  have HB := Lib.hid hb
  have HC := Lib.hid h0
  clear ha hb h0
  go_enter Tryz.func24, Tryz.ntmps24
  go_wp2_with (go_at_call 58; refine (slEqual_is a.cells b.cells A c D d _ true HC.out (HA.out.below (by (repeat (first | exact Below.refl _ _ | assumption | refine below_drewN ?_ _ | refine Below.drew ?_ | refine Below.setCell ?_ (by first | omega | (simp; done) | (simp; omega)) _ | refine Below.alloc ?_ (by first | omega | (simp; done) | (simp; omega)) _)))).sl (HB.out.below (by (repeat (first | exact Below.refl _ _ | assumption | refine below_drewN ?_ _ | refine Below.drew ?_ | refine Below.setCell ?_ (by first | omega | (simp; done) | (simp; omega)) _ | refine Below.alloc ?_ (by first | omega | (simp; done) | (simp; omega)) _)))).sl).mono ?_; rintro e w1 ⟨rfl, hbw⟩; obtain ⟨hcw, hfw⟩ := bcell hbw; have Hw1 := Lib.hid ((show Below w.heap.size w _ from (by repeat (first | exact Below.refl _ _ | assumption | refine below_drewN ?_ _ | refine Below.drew ?_ | refine Below.setCell ?_ (by first | omega | (simp; done) | (simp; omega)) _ | refine Below.alloc ?_ (by first | omega | (simp; done) | (simp; omega)) _))).trans (hbw.mono (by first | omega | (simp; done) | (simp; omega)))); have z0 : w.heap.size < w.heap.size + 1 + 1 := (by omega); have z1 := hbw.size; (try simp at z1); have z2 : w.heap.size < w1.heap.size := (by omega); have z3 : w.heap.size + 1 < w1.heap.size := (by omega); clear hbw)
  go_ret
  exact ⟨rfl, (by repeat (first | exact Below.refl _ _ | exact (Hw1).out | refine below_drewN ?_ _ | refine Below.drew ?_ | refine Below.setCell ?_ (by first | omega | (simp; done) | (simp; omega)) _ | refine Below.alloc ?_ (by first | omega | (simp; done) | (simp; omega)) _))⟩
theorem pSame_ (a b : Alr) (A : Option Addr) (c : Nat) (D : Option Addr) (d : Nat) (w : World) (ha : AIn w a A c) (hb : AIn w b D d) (v : Bool) (hv : sameB a b = v) :
    Calls Tryz.prog 24 #[a.val A c, b.val D d] w fun e w' => e = .returned (.bool v) ∧ Below w.heap.size w w' := by
  subst hv
  by_cases h0 : (a.cells == b.cells) = true
  case neg =>
    have h' : (a.cells == b.cells) = false := by simpa using h0
    rw [show sameB a b = false by unfold sameB; simp only [h', Bool.and_false, Bool.false_and]]
    exact pSame_0 a b A c D d w ha hb  h'
  by_cases h1 : (a.ev.toList == b.ev.toList) = true
  case neg =>
    have h' : (a.ev.toList == b.ev.toList) = false := by simpa using h1
    rw [show sameB a b = false by unfold sameB; simp only [h0, h', Bool.false_and, Bool.and_true]]
    exact pSame_1 a b A c D d w ha hb h0 h'
  by_cases h2 : (a.ver == b.ver) = true
  case neg =>
    have h' : (a.ver == b.ver) = false := by simpa using h2
    rw [show sameB a b = false by unfold sameB; simp only [h0, h1, h', Bool.and_false, Bool.false_and, Bool.and_true]]
    exact pSame_2 a b A c D d w ha hb h0 h1 h'
  by_cases h3 : (a.tm == b.tm) = true
  case neg =>
    have h' : (a.tm == b.tm) = false := by simpa using h3
    rw [show sameB a b = false by unfold sameB; simp only [h0, h1, h2, h', Bool.and_false, Bool.false_and, Bool.and_true]]
    exact pSame_3 a b A c D d w ha hb h0 h1 h2 h'
  by_cases h4 : (a.n == b.n) = true
  case neg =>
    have h' : (a.n == b.n) = false := by simpa using h4
    rw [show sameB a b = false by unfold sameB; simp only [h0, h1, h2, h3, h', Bool.and_false, Bool.false_and, Bool.and_true]]
    exact pSame_4 a b A c D d w ha hb h0 h1 h2 h3 h'
  by_cases h5 : (a.of == b.of) = true
  case neg =>
    have h' : (a.of == b.of) = false := by simpa using h5
    rw [show sameB a b = false by unfold sameB; simp only [h0, h1, h2, h3, h4, h', Bool.and_false, Bool.false_and, Bool.and_true]]
    exact pSame_5 a b A c D d w ha hb h0 h1 h2 h3 h4 h'
  by_cases h6 : (a.grid == b.grid) = true
  case neg =>
    have h' : (a.grid == b.grid) = false := by simpa using h6
    rw [show sameB a b = false by unfold sameB; simp only [h0, h1, h2, h3, h4, h5, h', Bool.and_false, Bool.false_and, Bool.and_true]]
    exact pSame_6 a b A c D d w ha hb h0 h1 h2 h3 h4 h5 h'
  by_cases h7 : (a.wd == b.wd) = true
  case neg =>
    have h' : (a.wd == b.wd) = false := by simpa using h7
    rw [show sameB a b = false by unfold sameB; simp only [h0, h1, h2, h3, h4, h5, h6, h', Bool.and_false, Bool.false_and, Bool.and_true]]
    exact pSame_7 a b A c D d w ha hb h0 h1 h2 h3 h4 h5 h6 h'
  by_cases h8 : (a.before == b.before) = true
  case neg =>
    have h' : (a.before == b.before) = false := by simpa using h8
    rw [show sameB a b = false by unfold sameB; simp only [h0, h1, h2, h3, h4, h5, h6, h7, h', Bool.and_false, Bool.and_true]]
    exact pSame_8 a b A c D d w ha hb h0 h1 h2 h3 h4 h5 h6 h7 h'
  rw [show sameB a b = true by unfold sameB; simp only [h0, h1, h2, h3, h4, h5, h6, h7, h8, Bool.and_true]]
  exact pSame_9 a b A c D d w ha hb h0 h1 h2 h3 h4 h5 h6 h7 h8
end Go.Proofs.YtmpbhngjkbidcaaGreatDoor
