/-
  The walks of the two functions that calculate powers.
-/
import Derived.Test.YtohfofecbdfkgaaGreatDoorU01
import Derived.WalkSmall
import Derived.Test.YtohfofecbdfkgaaGreatDoorU04
import Derived.Deep.RegionHeld3
import Derived.Deep.QuietTactic
import Derived.BigQuiet
namespace Go.Proofs.YtohfofecbdfkgaaGreatDoor
open Go.RowKit Al

theorem rpower_ (n e m : Int) (hn : 0 ≤ n) (he : 0 ≤ e) (he2 : e ≤ 1073741824) (hm1 : 1 ≤ m) (hm2 : m ≤ 1073741824) (w : World) :
    Calls Tryz.prog 162 #[.int .i64 n, .int .i64 e, .int .i64 m] w fun e' w' => e' = .returned (.int .i64 (pw n e m)) ∧ w = w' := by
  obtain ⟨n, rfl⟩ := Int.eq_ofNat_of_zero_le hn
  obtain ⟨e, rfl⟩ := Int.eq_ofNat_of_zero_le he
  obtain ⟨m, rfl⟩ := Int.eq_ofNat_of_zero_le (a := m) (by omega)
  have hm0 : ((m : Int) == 0) = false := by simp; omega
  have hmp : 0 < m := by omega
  clear hn he
  go_enter Tryz.func162, Tryz.ntmps162
  go_wp2
  go_loop [0, 1, 7] (fun a k o => ∃ s j x : Nat, a = .int .i64 s ∧ k = .int .i64 j ∧ o = .int .i64 x ∧ s < m ∧ x < m ∧ j ≤ e ∧ Hid (x * s ^ j % m = n ^ e % m)) (fun _ k _ => (intOf k).toNat)
  case atStart => exact ⟨n % m, e, 1 % m, by go_num, rfl, by go_num, Nat.mod_lt _ hmp, Nat.mod_lt _ hmp, Nat.le_refl _, pw_start n e m⟩
  case round =>
    obtain ⟨s, j, x, rfl, rfl, rfl, hs, hx, hje, hp⟩ := hrel
    have b1 := mulI_bd hx hs (by omega)
    have b2 := mulI_bd hs hs (by omega)
    have b3 := mulI_nn x s
    have b4 := mulI_nn s s
    have ls := Nat.mod_lt (s * s) hmp
    have lx := Nat.mod_lt (x * s) hmp
    by_cases hj : 0 < j
    · have hj1 : (0 : Int) < (j : Int) := by omega
      by_cases ho : j % 2 = 1
      · have ho' : ((j : Int) % 2 == 1) = true := by simp; omega
        go_wp2
        go_round
        case rel => exact ⟨s * s % m, j / 2, x * s % m, by go_num, by go_num, by go_num, ls, lx, by omega, by show _ = _; rw [← hp.out, pw_odd ho]⟩
        case measure => simp [intOf]; omega
      · have ho' : ((j : Int) % 2 == 1) = false := by simp; omega
        go_wp2
        go_round
        case rel => exact ⟨s * s % m, j / 2, x, by go_num, by go_num, rfl, ls, hx, by omega, by show _ = _; rw [← hp.out, pw_even (by omega)]⟩
        case measure => simp [intOf]; omega
    · obtain rfl : j = 0 := by omega
      go_wp2
      go_ret
      exact ⟨ret_int (by rw [pw_nat, ← hp.out, Nat.pow_zero, Nat.mul_one, Nat.mod_eq_of_lt hx]), rfl⟩
theorem power_ (n e m : Int) (hn : 0 ≤ n) (he : 0 ≤ e) (he2 : e ≤ 1073741824) (hm1 : 1 ≤ m) (hm2 : m ≤ 1073741824) (w : World) :
    Calls Tryz.prog 96 #[.int .i64 n, .int .i64 e, .int .i64 m] w fun e' w' => e' = .returned (.int .i64 (pw n e m)) ∧ Below w.heap.size w w' := by
  obtain ⟨n, rfl⟩ := Int.eq_ofNat_of_zero_le hn
  obtain ⟨e, rfl⟩ := Int.eq_ofNat_of_zero_le he
  obtain ⟨m, rfl⟩ := Int.eq_ofNat_of_zero_le (a := m) (by omega)
  have hm0 : ((m : Int) == 0) = false := by simp; omega
  have hmp : 0 < m := by omega
  clear hn he
  go_enter Tryz.func96, Tryz.ntmps96
  go_wp2
  go_quiet (fail)
  go_wp2
  go_loop [1, 8, 9] (fun k o a => ∃ s j x : Nat, k = .int .i64 j ∧ o = .int .i64 x ∧ a = .int .i64 s ∧ s < m ∧ x < m ∧ j ≤ e ∧ Hid (x * s ^ j % m = n ^ e % m)) (fun k _ _ => (intOf k).toNat)
  case atStart => exact ⟨n % m, e, 1 % m, rfl, by go_num, by go_num, Nat.mod_lt _ hmp, Nat.mod_lt _ hmp, Nat.le_refl _, pw_start n e m⟩
  case round =>
    obtain ⟨s, j, x, rfl, rfl, rfl, hs, hx, hje, hp⟩ := hrel
    have b1 := mulI_bd hx hs (by omega)
    have b2 := mulI_bd hs hs (by omega)
    have b3 := mulI_nn x s
    have b4 := mulI_nn s s
    have ls := Nat.mod_lt (s * s) hmp
    have lx := Nat.mod_lt (x * s) hmp
    by_cases hj : 0 < j
    · have hj1 : (0 : Int) < (j : Int) := by omega
      by_cases ho : j % 2 = 1
      · have ho' : ((j : Int) % 2 == 1) = true := by simp; omega
        go_wp2
        go_round
        case rel => exact ⟨s * s % m, j / 2, x * s % m, by go_num, by go_num, by go_num, ls, lx, by omega, by show _ = _; rw [← hp.out, pw_odd ho]⟩
        case measure => simp [intOf]; omega
      · have ho' : ((j : Int) % 2 == 1) = false := by simp; omega
        go_wp2
        go_round
        case rel => exact ⟨s * s % m, j / 2, x, by go_num, rfl, by go_num, ls, hx, by omega, by show _ = _; rw [← hp.out, pw_even (by omega)]⟩
        case measure => simp [intOf]; omega
    · obtain rfl : j = 0 := by omega
      go_wp2
      go_ret
      exact ⟨ret_int (by rw [pw_nat, ← hp.out, Nat.pow_zero, Nat.mul_one, Nat.mod_eq_of_lt hx]), below_drewN ((Below.refl _ _).alloc (Nat.le_refl _) _) _⟩
end Go.Proofs.YtohfofecbdfkgaaGreatDoor

/-
  The walks of Digest, Sign, Signed and their helpers.
-/
namespace Go.Proofs.YtohfofecbdfkgaaGreatDoor
open Go.RowKit Al

/-- An alert that lies in the world: its cells are a slice in memory. -/
structure AIn (w : World) (a : Alr) (A : Option Addr) (c : Nat) : Prop where
  ev : a.ev.size ≤ maxLen
  sl : Sl w w.heap.size 1 A a.cells.length c (ints a.cells)
theorem AIn.below {w w' : World} {a : Alr} {A : Option Addr} {c : Nat} (h : AIn w a A c) (hb : Below w.heap.size w w') : AIn w' a A c :=
  ⟨h.ev, (h.sl.below hb).more hb.size⟩
/-- The world is ready for a text: the library's table lies in it. -/
structure Rdy (w : World) : Prop where
  tab : Tab w
  big : 8 ≤ w.heap.size
theorem Rdy.below {w w' : World} (h : Rdy w) (hb : Below w.heap.size w w') : Rdy w' := ⟨h.tab.below (by have := h.big; omega) hb, Nat.le_trans h.big hb.size⟩

theorem validA (a : Alr) (A : Option Addr) (c : Nat) (w : World) (h : AIn w a A c) :
    Calls Tryz.prog 73 #[a.val A c] w fun e w' => e = .returned (.bool (okA a)) ∧ Below w.heap.size w w' :=
  valid_ a A c _ w h.ev h.sl (Nat.le_refl _)
theorem rcheckA (a : Alr) (A : Option Addr) (c : Nat) (w : World) (h : AIn w a A c) :
    Calls Tryz.prog 33 #[a.val A c] w fun e w' => e = .returned (.int .i64 (errA (okA a) 101)) ∧ Below w.heap.size w w' :=
  rcheck_ a A c _ w h.ev h.sl (Nat.le_refl _)
theorem digestA (a : Alr) (A : Option Addr) (c : Nat) (w : World) (hk : okA a = true) (h : AIn w a A c) (hr : Rdy w) :
    Calls Tryz.prog 47 #[a.val A c] w fun e w' => e = .returned (.int .i64 (digA a)) ∧ Below w.heap.size w w' :=
  digest_ a A c _ w (okA_good hk) h.sl (Nat.le_refl _) hr.tab hr.big
theorem rdigestA (a : Alr) (A : Option Addr) (c : Nat) (w : World) (hk : okA a = true) (h : AIn w a A c) :
    Calls Tryz.prog 89 #[a.val A c] w fun e w' => e = .returned (.int .i64 (digA a)) ∧ Below w.heap.size w w' :=
  rdigest_ a A c _ w (okA_good hk) h.sl (Nat.le_refl _)

/-- What Digest gives. -/
def digE (a : Alr) : Int := if okA a then digA a else 0
theorem digE_t {a : Alr} (h : okA a = true) : digE a = digA a := by unfold digE; rw [h]; rfl
theorem digE_f {a : Alr} (h : okA a = false) : digE a = 0 := by unfold digE; rw [h]; rfl
theorem errA_t {b : Bool} {c : Int} (h : b = true) : errA b c = 0 := by rw [h]; rfl
theorem errA_f {b : Bool} {c : Int} (h : b = false) : errA b c = c := by rw [h]; rfl
theorem ret2 {j k : IntKind} {a b c d : Int} (h : a = c) (h' : b = d) : Ending.returned (.tuple #[.int j a, .int k b]) = .returned (.tuple #[.int j c, .int k d]) := by rw [h, h']
theorem retb2 {k : IntKind} {a c : Bool} {b d : Int} (h : a = c) (h' : b = d) : Ending.returned (.tuple #[.bool a, .int k b]) = .returned (.tuple #[.bool c, .int k d]) := by rw [h, h']

set_option maxRecDepth 100000 in
theorem Digest_ (a : Alr) (A : Option Addr) (c : Nat) (w : World) (h : AIn w a A c) (hr : Rdy w) :
    Calls Tryz.prog 30 #[a.val A c] w fun e w' => e = .returned (.tuple #[.int .i64 (digE a), .int .i64 (errA (okA a) 101)]) ∧ Below w.heap.size w w' := by
  have HA := Lib.hid h
  have HR := Lib.hid hr
  clear h hr
  go_enter Tryz.func30, Tryz.ntmps30
  go_wp2_with fail
  refine (validA a A c _ (HA.out.below (by repeat (first | exact Below.refl _ _ | assumption | refine below_drewN ?_ _ | refine Below.drew ?_ | refine Below.setCell ?_ (by first | omega | (simp; done) | (simp; omega)) _ | refine Below.alloc ?_ (by first | omega | (simp; done) | (simp; omega)) _)))).mono ?_
  rintro e w1 ⟨rfl, hb⟩
  obtain ⟨hc, hf⟩ := bcell hb
  have HB := Lib.hid ((show Below w.heap.size w _ from (by repeat (first | exact Below.refl _ _ | assumption | refine below_drewN ?_ _ | refine Below.drew ?_ | refine Below.setCell ?_ (by first | omega | (simp; done) | (simp; omega)) _ | refine Below.alloc ?_ (by first | omega | (simp; done) | (simp; omega)) _))).trans (hb.mono (by simp)))
  have hz := hb.size
  simp at hz
  clear hb
  by_cases hk : okA a = true
  · have HK := Lib.hid hk
    go_wp2_with fail
    refine (digestA a A c _ HK.out (HA.out.below HB.out) (HR.out.below HB.out)).mono ?_
    rintro e w2 ⟨rfl, hb2⟩
    have HB2 := Lib.hid (HB.out.trans (hb2.mono HB.out.size))
    clear hb2 hc hf
    go_wp2_with fail
    go_ret2
    exact ⟨ret2 (digE_t HK.out).symm (errA_t HK.out).symm, HB2.out⟩
  · have hk' : okA a = false := by simpa using hk
    have HK := Lib.hid hk'
    clear hk
    go_wp2_with fail
    go_ret2
    exact ⟨ret2 (digE_f HK.out).symm (errA_f HK.out).symm, HB.out⟩
end Go.Proofs.YtohfofecbdfkgaaGreatDoor

/-
  The walks of Sign and Signed, and those of the specification.
-/
namespace Go.Proofs.YtohfofecbdfkgaaGreatDoor
open Go.RowKit Al

theorem plausible_is (m x : Int) (b : Bool) (h : plaus m x = b) (w : World) :
    Calls Tryz.prog 95 #[.agg #[.int .i64 m, .int .i64 x]] w fun e' w' => e' = .returned (.bool b) ∧ Below w.heap.size w w' := h ▸ plausible_ m x w
theorem rplausible_ (m x : Int) (w : World) :
    Calls Tryz.prog 133 #[.agg #[.int .i64 m, .int .i64 x]] w fun e' w' => e' = .returned (.bool (plaus m x)) ∧ Below w.heap.size w w' := by
  go_enter Tryz.func133, Tryz.ntmps133
  go_wp2_with (go_at_call 76; refine (In_ _ _ _ _).mono ?_; rintro e w' ⟨rfl, rfl⟩)
  all_goals go_ret
  all_goals exact ⟨ret_bool (by simp [plaus, *]), (by repeat (first | exact Below.refl _ _ | assumption | refine below_drewN ?_ _ | refine Below.drew ?_ | refine Below.setCell ?_ (by first | omega | (simp; done) | (simp; omega)) _ | refine Below.alloc ?_ (by first | omega | (simp; done) | (simp; omega)) _))⟩
theorem rplausible_is (m x : Int) (b : Bool) (h : plaus m x = b) (w : World) :
    Calls Tryz.prog 133 #[.agg #[.int .i64 m, .int .i64 x]] w fun e' w' => e' = .returned (.bool b) ∧ Below w.heap.size w w' := h ▸ rplausible_ m x w
theorem validA_is (a : Alr) (A : Option Addr) (c : Nat) (w : World) (b : Bool) (hk : okA a = b) (h : AIn w a A c) :
    Calls Tryz.prog 73 #[a.val A c] w fun e w' => e = .returned (.bool b) ∧ Below w.heap.size w w' := hk ▸ validA a A c w h
theorem rcheckA_is (a : Alr) (A : Option Addr) (c : Nat) (w : World) (v : Int) (hk : errA (okA a) 101 = v) (h : AIn w a A c) :
    Calls Tryz.prog 33 #[a.val A c] w fun e w' => e = .returned (.int .i64 v) ∧ Below w.heap.size w w' := hk ▸ rcheckA a A c w h
theorem Digest_t (a : Alr) (A : Option Addr) (c : Nat) (w : World) (hk : okA a = true) (h : AIn w a A c) (hr : Rdy w) :
    Calls Tryz.prog 30 #[a.val A c] w fun e w' => e = .returned (.tuple #[.int .i64 (digA a), .int .i64 0]) ∧ Below w.heap.size w w' := by
  have := Digest_ a A c w h hr
  rw [digE_t hk, errA_t hk] at this
  exact this
theorem Digest_f (a : Alr) (A : Option Addr) (c : Nat) (w : World) (hk : okA a = false) (h : AIn w a A c) (hr : Rdy w) :
    Calls Tryz.prog 30 #[a.val A c] w fun e w' => e = .returned (.tuple #[.int .i64 0, .int .i64 101]) ∧ Below w.heap.size w w' := by
  have := Digest_ a A c w h hr
  rw [digE_f hk, errA_f hk] at this
  exact this

/-- What Sign gives: the number, and the error. -/
def signE (m x s : Int) (a : Alr) : Int × Int := if plaus m x && inB s 1 1073741824 then (if okA a then (pw (digA a) s m, 0) else (0, 101)) else (0, 100)
theorem signE_no {m x s : Int} {a : Alr} (h : plaus m x = false ∨ inB s 1 1073741824 = false) : signE m x s a = (0, 100) := by
  unfold signE
  rw [if_neg]
  intro hh
  rw [Bool.and_eq_true] at hh
  rcases h with h | h
  · rw [h] at hh; cases hh.1
  · rw [h] at hh; cases hh.2
theorem signE_bad {m x s : Int} {a : Alr} (h1 : plaus m x = true) (h2 : inB s 1 1073741824 = true) (h : okA a = false) : signE m x s a = (0, 101) := by
  unfold signE; rw [h1, h2, h]; rfl
theorem signE_ok {m x s : Int} {a : Alr} (h1 : plaus m x = true) (h2 : inB s 1 1073741824 = true) (h : okA a = true) : signE m x s a = (pw (digA a) s m, 0) := by
  unfold signE; rw [h1, h2, h]; rfl
def SignRet (p : Int × Int) (w : World) (e : Ending) (w' : World) : Prop := e = .returned (.tuple #[.int .i64 p.1, .int .i64 p.2]) ∧ Below w.heap.size w w'

set_option maxRecDepth 100000 in
set_option maxHeartbeats 1000000 in
theorem Sign_ (m x s : Int) (a : Alr) (A : Option Addr) (c : Nat) (w : World) (h : AIn w a A c) (hr : Rdy w) :
    Calls Tryz.prog 56 #[.agg #[.int .i64 m, .int .i64 x], .int .i64 s, a.val A c] w (SignRet (signE m x s a) w) := by
  have HA := Lib.hid h
  have HR := Lib.hid hr
  clear h hr
  by_cases h1 : plaus m x = true
  · have H1 := Lib.hid h1
    have b1 := plaus_true.1 h1
    by_cases h2 : inB s 1 1073741824 = true
    · have H2 := Lib.hid h2
      have b2 := inB_true.1 h2
      by_cases hk : okA a = true
      · have HK := Lib.hid hk
        have HD := Lib.hid (digL_in (textL a))
        clear h1 h2 hk
        go_enter Tryz.func56, Tryz.ntmps56
        go_wp2_with fail
        refine (plausible_is _ _ _ H1.out _).mono ?_
        rintro e w1 ⟨rfl, hb⟩
        obtain ⟨hcw1, hfw1⟩ := bcell hb
        have Hw1 := Lib.hid ((show Below w.heap.size w _ from (by repeat (first | exact Below.refl _ _ | assumption | refine below_drewN ?_ _ | refine Below.drew ?_ | refine Below.setCell ?_ (by first | omega | (simp; done) | (simp; omega)) _ | refine Below.alloc ?_ (by first | omega | (simp; done) | (simp; omega)) _))).trans (hb.mono (by first | omega | (simp; done) | (simp; omega))))
        have hzw1 := hb.size
        try simp at hzw1
        clear hb
        go_wp2_with (go_at_call 50; refine (within_is _ _ _ _ H2.out _).mono ?_; rintro e w' ⟨rfl, rfl⟩)
        refine (Digest_t a A c _ HK.out (HA.out.below Hw1.out) (HR.out.below Hw1.out)).mono ?_
        rintro e w2 ⟨rfl, hb⟩
        obtain ⟨hcw2, hfw2⟩ := bcell hb
        have Hw2 := Lib.hid ((show Below w.heap.size w _ from (by repeat (first | exact Below.refl _ _ | exact (Hw1).out | refine below_drewN ?_ _ | refine Below.drew ?_ | refine Below.setCell ?_ (by first | omega | (simp; done) | (simp; omega)) _ | refine Below.alloc ?_ (by first | omega | (simp; done) | (simp; omega)) _))).trans (hb.mono (by first | omega | (simp; done) | (simp; omega))))
        have hzw2 := hb.size
        try simp at hzw2
        clear hb
        have hz3 : w.heap.size < w1.heap.size := by omega
        go_wp2_with fail
        refine (power_ _ _ _ HD.out.1 (by omega) (by omega) (by omega) (by omega) _).mono ?_
        rintro e w3 ⟨rfl, hb⟩
        obtain ⟨hcw3, hfw3⟩ := bcell hb
        have Hw3 := Lib.hid ((show Below w.heap.size w _ from (by repeat (first | exact Below.refl _ _ | exact (Hw2).out | refine below_drewN ?_ _ | refine Below.drew ?_ | refine Below.setCell ?_ (by first | omega | (simp; done) | (simp; omega)) _ | refine Below.alloc ?_ (by first | omega | (simp; done) | (simp; omega)) _))).trans (hb.mono (by first | omega | (simp; done) | (simp; omega))))
        have hzw3 := hb.size
        try simp at hzw3
        clear hb
        go_wp2_with fail
        go_ret2
        exact ⟨by rw [signE_ok H1.out H2.out HK.out]; rfl, Hw3.out⟩
      · have hk' : okA a = false := by simpa using hk
        have HK := Lib.hid hk'
        clear h1 h2 hk hk'
        go_enter Tryz.func56, Tryz.ntmps56
        go_wp2_with fail
        refine (plausible_is _ _ _ H1.out _).mono ?_
        rintro e w1 ⟨rfl, hb⟩
        obtain ⟨hcw1, hfw1⟩ := bcell hb
        have Hw1 := Lib.hid ((show Below w.heap.size w _ from (by repeat (first | exact Below.refl _ _ | assumption | refine below_drewN ?_ _ | refine Below.drew ?_ | refine Below.setCell ?_ (by first | omega | (simp; done) | (simp; omega)) _ | refine Below.alloc ?_ (by first | omega | (simp; done) | (simp; omega)) _))).trans (hb.mono (by first | omega | (simp; done) | (simp; omega))))
        have hzw1 := hb.size
        try simp at hzw1
        clear hb
        go_wp2_with (go_at_call 50; refine (within_is _ _ _ _ H2.out _).mono ?_; rintro e w' ⟨rfl, rfl⟩)
        refine (Digest_f a A c _ HK.out (HA.out.below Hw1.out) (HR.out.below Hw1.out)).mono ?_
        rintro e w2 ⟨rfl, hb⟩
        obtain ⟨hcw2, hfw2⟩ := bcell hb
        have Hw2 := Lib.hid ((show Below w.heap.size w _ from (by repeat (first | exact Below.refl _ _ | exact (Hw1).out | refine below_drewN ?_ _ | refine Below.drew ?_ | refine Below.setCell ?_ (by first | omega | (simp; done) | (simp; omega)) _ | refine Below.alloc ?_ (by first | omega | (simp; done) | (simp; omega)) _))).trans (hb.mono (by first | omega | (simp; done) | (simp; omega))))
        have hzw2 := hb.size
        try simp at hzw2
        clear hb
        go_wp2_with fail
        go_ret2
        exact ⟨by rw [signE_bad H1.out H2.out HK.out]; rfl, Hw2.out⟩
    · have h2' : inB s 1 1073741824 = false := by simpa using h2
      have H2 := Lib.hid h2'
      clear h1 h2 h2'
      go_enter Tryz.func56, Tryz.ntmps56
      go_wp2_with fail
      refine (plausible_is _ _ _ H1.out _).mono ?_
      rintro e w1 ⟨rfl, hb⟩
      obtain ⟨hcw1, hfw1⟩ := bcell hb
      have Hw1 := Lib.hid ((show Below w.heap.size w _ from (by repeat (first | exact Below.refl _ _ | assumption | refine below_drewN ?_ _ | refine Below.drew ?_ | refine Below.setCell ?_ (by first | omega | (simp; done) | (simp; omega)) _ | refine Below.alloc ?_ (by first | omega | (simp; done) | (simp; omega)) _))).trans (hb.mono (by first | omega | (simp; done) | (simp; omega))))
      have hzw1 := hb.size
      try simp at hzw1
      clear hb
      go_wp2_with (go_at_call 50; refine (within_is _ _ _ _ H2.out _).mono ?_; rintro e w' ⟨rfl, rfl⟩)
      go_ret2
      exact ⟨by rw [signE_no (.inr H2.out)]; rfl, Hw1.out⟩
  · have h1' : plaus m x = false := by simpa using h1
    have H1 := Lib.hid h1'
    clear h1 h1'
    go_enter Tryz.func56, Tryz.ntmps56
    go_wp2_with fail
    refine (plausible_is _ _ _ H1.out _).mono ?_
    rintro e w1 ⟨rfl, hb⟩
    obtain ⟨hcw1, hfw1⟩ := bcell hb
    have Hw1 := Lib.hid ((show Below w.heap.size w _ from (by repeat (first | exact Below.refl _ _ | assumption | refine below_drewN ?_ _ | refine Below.drew ?_ | refine Below.setCell ?_ (by first | omega | (simp; done) | (simp; omega)) _ | refine Below.alloc ?_ (by first | omega | (simp; done) | (simp; omega)) _))).trans (hb.mono (by first | omega | (simp; done) | (simp; omega))))
    have hzw1 := hb.size
    try simp at hzw1
    clear hb
    go_wp2_with fail
    go_ret2
    exact ⟨by rw [signE_no (.inl H1.out)]; rfl, Hw1.out⟩
end Go.Proofs.YtohfofecbdfkgaaGreatDoor

/-
  The walks of the specification's Sign and Signed.
-/
namespace Go.Proofs.YtohfofecbdfkgaaGreatDoor
open Go.RowKit Al

end Go.Proofs.YtohfofecbdfkgaaGreatDoor

/-
  A region that draws its order and whose calls make memory: one walk of the text's order serves every order, in the class of the worlds that are as this one was below its heap's size (the library's wp_region_quiet at this class).
-/
namespace Go.Proofs.YtohfofecbdfkgaaGreatDoor
open Go.RowKit

/-- A world that is as W was, below W's heap's size. -/
def BW (W : World) : Type := { w' : World // Below W.heap.size W w' }
def BW.w {W : World} (z : BW W) : World := z.val
theorem BW.below {W : World} (z : BW W) : Below W.heap.size W z.w := z.property
instance (W : World) : Nonempty (BW W) := ⟨⟨W, Below.refl _ _⟩⟩
theorem BW.cell (W : World) : ∀ (z : BW W) (b o : Nat), b < W.heap.size → z.w.cell? ⟨b, o, none⟩ = W.cell? ⟨b, o, none⟩ := fun z b o h => z.below.cell (p := ⟨b, o, none⟩) h
theorem wp_region_bw {P : Program} {id : Nat} {Q : Exit → Act → World → Prop} {a : Act} {w : World} {l : List Oper} (hm : P.follows .mixedOrders = true) (hB : Region.lexB .any l.toArray = true)
    (h : wpQuiet P l.toArray (fun w' => ∃ z : BW w, w' = z.w) (fun a' => ∀ w', Below w.heap.size w w' → Q .normal a' w') l a) : (Code.region id l.toArray true).wp P Q a w := by
  refine wp_region_quiet (C := fun w' => ∃ z : BW w, w' = z.w) hm hB ⟨⟨_, (Below.refl _ _).drew⟩, rfl⟩ ?_
  have e : (fun a' : Act => ∀ w', (∃ z : BW w, w' = z.w) → Q .normal a' w') = fun a' => ∀ w', Below w.heap.size w w' → Q .normal a' w' := by
    funext a'
    refine propext ⟨fun h w' hb => h w' ⟨⟨w', hb⟩, rfl⟩, fun h w' ⟨z, hz⟩ => ?_⟩
    subst hz
    exact h _ z.below
  rw [e]
  simpa using h
theorem wp_region_bw2 {P : Program} {id : Nat} {Q : Exit → Act → World → Prop} {a : Act} {w : World} {l : List Oper} (hm : P.follows .mixedOrders = true) (hB : Region.lexB .any l.toArray = true)
    (h : (∀ (z : BW w) (b o : Nat), b < w.heap.size → z.w.cell? ⟨b, o, none⟩ = w.cell? ⟨b, o, none⟩) → wpQuiet P l.toArray (fun w' => ∃ z : BW w, w' = z.w) (fun a' => ∀ w', Below w.heap.size w w' → Q .normal a' w') l a) : (Code.region id l.toArray true).wp P Q a w :=
  wp_region_bw hm hB (h (BW.cell w))
theorem bwCall {P : Program} {f : FuncId} {args : Array Value} {W : World} {z : BW W} {v : Value} (h : Calls P f args z.w fun e w' => e = .returned v ∧ Below z.w.heap.size z.w w') :
    Calls P f args z.w fun e w'' => e = .returned v ∧ ∃ z' : BW W, w'' = z'.w :=
  h.mono fun _ w'' ⟨he, hb⟩ => ⟨he, ⟨w'', z.below.trans (hb.mono z.below.size)⟩, rfl⟩
theorem bwSame {P : Program} {f : FuncId} {args : Array Value} {W : World} {z : BW W} {v : Value} (h : Calls P f args z.w fun e w' => e = .returned v ∧ z.w = w') :
    Calls P f args z.w fun e w'' => e = .returned v ∧ ∃ z' : BW W, w'' = z'.w :=
  h.mono fun _ _ ⟨he, hb⟩ => ⟨he, z, hb.symm⟩
theorem bwDrew {P : Program} {f : FuncId} {args : Array Value} {W : World} {z : BW W} {v : Value} (h : Calls P f args z.w fun e w' => e = .returned v ∧ ∃ n, w' = z.w.drewN n) :
    Calls P f args z.w fun e w'' => e = .returned v ∧ ∃ z' : BW W, w'' = z'.w :=
  h.mono fun _ w'' ⟨he, n, hb⟩ => ⟨he, ⟨w'', by rw [hb]; exact below_drewN z.below n⟩, rfl⟩
end Go.Proofs.YtohfofecbdfkgaaGreatDoor

/-
  The walks of 'signed', of the program and of the specification, and of Signed.
-/
namespace Go.Proofs.YtohfofecbdfkgaaGreatDoor
open Go.RowKit Al

/-- Is a number a signature of a digest? -/
def sigB (m x d num : Int) : Bool := inB num 0 (m - 1) && (pw num x m == d % m)
theorem sigB_no {m x d num : Int} (h : inB num 0 (m - 1) = false) : sigB m x d num = false := by unfold sigB; rw [h]; rfl
theorem sigB_yes {m x d num : Int} (h : inB num 0 (m - 1) = true) : sigB m x d num = (pw num x m == d % m) := by unfold sigB; rw [h]; rfl

set_option maxRecDepth 100000 in
set_option maxHeartbeats 1000000 in
theorem signed_ (m x d num : Int) (w : World) (h1 : plaus m x = true) (hd : 0 ≤ d ∧ d ≤ 2147483646) :
    Calls Tryz.prog 97 #[.agg #[.int .i64 m, .int .i64 x], .int .i64 d, .int .i64 num] w fun e w' => e = .returned (.bool (sigB m x d num)) ∧ Below w.heap.size w w' := by
  have b1 := plaus_true.1 h1
  have H1 := Lib.hid h1
  obtain ⟨d1, d2⟩ := hd
  clear h1
  by_cases h2 : inB num 0 (m - 1) = true
  · have H2 := Lib.hid h2
    have b2 := inB_true.1 h2
    clear h2
    go_enter Tryz.func97, Tryz.ntmps97
    go_wp2_with fail
    refine wp_region_bw2 (by kernel_rfl) (by kernel_rfl) (fun hbwc => ?_)
    repeat (go_big_quiet_step ((first | (go_at_call 50; exact bwSame (within_is _ _ _ _ H2.out _)) | (go_at_call 96; exact bwCall (power_ _ _ _ (by omega) (by omega) (by omega) (by omega) (by omega) _)))))
    refine wpQuiet_nil ?_
    clear hbwc
    intro w3 hb
    have Hw3 := Lib.hid ((show Below w.heap.size w _ from (by repeat (first | exact Below.refl _ _ | assumption | refine below_drewN ?_ _ | refine Below.drew ?_ | refine Below.setCell ?_ (by first | omega | (simp; done) | (simp; omega)) _ | refine Below.alloc ?_ (by first | omega | (simp; done) | (simp; omega)) _))).trans (hb.mono (by first | omega | (simp; done) | (simp; omega))))
    clear hb
    go_wp2_with fail
    go_ret
    exact ⟨ret_bool (sigB_yes H2.out).symm, Hw3.out⟩
  · have h2' : inB num 0 (m - 1) = false := by simpa using h2
    have H2 := Lib.hid h2'
    clear h2 h2'
    go_enter Tryz.func97, Tryz.ntmps97
    go_wp2_with fail
    go_quiet ((go_at_call 50; first | exact quietAdd (within_is _ _ _ _ H2.out _) | exact quiet0 (within_is _ _ _ _ H2.out _)))
    all_goals
      go_wp2_with fail
      go_ret
      exact ⟨ret_bool (sigB_no H2.out).symm, (by repeat (first | exact Below.refl _ _ | assumption | refine below_drewN ?_ _ | refine Below.drew ?_ | refine Below.setCell ?_ (by first | omega | (simp; done) | (simp; omega)) _ | refine Below.alloc ?_ (by first | omega | (simp; done) | (simp; omega)) _))⟩
end Go.Proofs.YtohfofecbdfkgaaGreatDoor

/-
  The walks of the specification's 'signed', and of Signed on both sides.
-/
namespace Go.Proofs.YtohfofecbdfkgaaGreatDoor
open Go.RowKit Al

set_option maxRecDepth 100000 in
set_option maxHeartbeats 1000000 in
theorem rsigned_ (m x num : Int) (a : Alr) (A : Option Addr) (c : Nat) (w : World) (h1 : plaus m x = true) (hk : okA a = true) (h : AIn w a A c) :
    Calls Tryz.prog 134 #[.agg #[.int .i64 m, .int .i64 x], a.val A c, .int .i64 num] w fun e w' => e = .returned (.bool (sigB m x (digA a) num)) ∧ Below w.heap.size w w' := by
  have b1 := plaus_true.1 h1
  have H1 := Lib.hid h1
  have HD := Lib.hid (digL_in (textL a))
  have hD1 : 0 ≤ digA a := HD.out.1
  have hD2 : digA a ≤ 2147483646 := HD.out.2
  have HK := Lib.hid hk
  have HA := Lib.hid h
  clear h1 hk h
  by_cases h2 : inB num 0 (m - 1) = true
  · have H2 := Lib.hid h2
    have b2 := inB_true.1 h2
    clear h2
    go_enter Tryz.func134, Tryz.ntmps134
    go_wp2_with fail
    refine wp_region_bw2 (by kernel_rfl) (by kernel_rfl) (fun hbwc => ?_)
    repeat (go_big_quiet_step ((first | (go_at_call 76; exact bwSame (In_is _ _ _ _ H2.out _)) | (go_at_call 162; exact bwSame (rpower_ _ _ _ (by omega) (by omega) (by omega) (by omega) (by omega) _)) | (go_at_call 89; exact bwCall (rdigestA a A c _ HK.out (AIn.below (HA.out.below (by (repeat (first | exact Below.refl _ _ | assumption | refine below_drewN ?_ _ | refine Below.drew ?_ | refine Below.setCell ?_ (by first | omega | (simp; done) | (simp; omega)) _ | refine Below.alloc ?_ (by first | omega | (simp; done) | (simp; omega)) _)))) (BW.below _)))))))
    refine wpQuiet_nil ?_
    clear hbwc
    intro w3 hb
    have Hw3 := Lib.hid ((show Below w.heap.size w _ from (by repeat (first | exact Below.refl _ _ | assumption | refine below_drewN ?_ _ | refine Below.drew ?_ | refine Below.setCell ?_ (by first | omega | (simp; done) | (simp; omega)) _ | refine Below.alloc ?_ (by first | omega | (simp; done) | (simp; omega)) _))).trans (hb.mono (by first | omega | (simp; done) | (simp; omega))))
    clear hb
    go_wp2_with fail
    go_ret
    exact ⟨ret_bool (sigB_yes H2.out).symm, Hw3.out⟩
  · have h2' : inB num 0 (m - 1) = false := by simpa using h2
    have H2 := Lib.hid h2'
    clear h2 h2'
    go_enter Tryz.func134, Tryz.ntmps134
    go_wp2_with fail
    go_quiet ((go_at_call 76; first | exact quietAdd (In_is _ _ _ _ H2.out _) | exact quiet0 (In_is _ _ _ _ H2.out _)))
    all_goals
      go_wp2_with fail
      go_ret
      exact ⟨ret_bool (sigB_no H2.out).symm, (by repeat (first | exact Below.refl _ _ | assumption | refine below_drewN ?_ _ | refine Below.drew ?_ | refine Below.setCell ?_ (by first | omega | (simp; done) | (simp; omega)) _ | refine Below.alloc ?_ (by first | omega | (simp; done) | (simp; omega)) _))⟩

/-- What Signed gives. -/
def signedB (m x num : Int) (a : Alr) : Bool := plaus m x && (okA a && sigB m x (digA a) num)
def signedC (m x : Int) (a : Alr) : Int := if plaus m x then errA (okA a) 101 else 100
def SignedRet (m x num : Int) (a : Alr) (w : World) (e : Ending) (w' : World) : Prop := e = .returned (.tuple #[.bool (signedB m x num a), .int .i64 (signedC m x a)]) ∧ Below w.heap.size w w'
theorem signed_ok {m x num : Int} {a : Alr} (h1 : plaus m x = true) (h2 : okA a = true) : signedB m x num a = sigB m x (digA a) num ∧ signedC m x a = 0 := by
  unfold signedB signedC; rw [h1, h2]; exact ⟨rfl, rfl⟩
theorem signed_bad {m x num : Int} {a : Alr} (h1 : plaus m x = true) (h2 : okA a = false) : signedB m x num a = false ∧ signedC m x a = 101 := by
  unfold signedB signedC; rw [h1, h2]; exact ⟨rfl, rfl⟩
theorem signed_not {m x num : Int} {a : Alr} (h1 : plaus m x = false) : signedB m x num a = false ∧ signedC m x a = 100 := by
  unfold signedB signedC; rw [h1]; exact ⟨rfl, rfl⟩

end Go.Proofs.YtohfofecbdfkgaaGreatDoor
