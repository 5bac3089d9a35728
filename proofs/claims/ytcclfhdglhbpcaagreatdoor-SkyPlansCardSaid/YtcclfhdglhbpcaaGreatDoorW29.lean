/-
  The walks of the specification's cells and directions.
-/
import Derived.Test.YtcclfhdglhbpcaaGreatDoorW14
import Derived.Test.YtcclfhdglhbpcaaGreatDoorW02
namespace Go.Proofs.YtcclfhdglhbpcaaGreatDoor
open Go.RowKit Al Cell9

theorem rInB_ (n lo hi : Int) (w : World) : Calls Tryz.prog 29 #[.int .i64 n, .int .i64 lo, .int .i64 hi] w fun e w' => e = .returned (.bool (inB n lo hi)) ∧ w = w' := by
  by_cases h1 : lo ≤ n
  · by_cases h2 : n ≤ hi
    · have hb : Hid (inB n lo hi = true) := inB_true.2 ⟨h1, h2⟩
      go_enter Tryz.func29, Tryz.ntmps29
      go_wp2_with fail
      go_ret
      exact ⟨ret_bool hb.out.symm, rfl⟩
    · have hb : Hid (inB n lo hi = false) := inB_false.2 (by omega)
      go_enter Tryz.func29, Tryz.ntmps29
      go_wp2_with fail
      go_ret
      exact ⟨ret_bool hb.out.symm, rfl⟩
  · have hb : Hid (inB n lo hi = false) := inB_false.2 (by omega)
    go_enter Tryz.func29, Tryz.ntmps29
    go_wp2_with fail
    go_ret
    exact ⟨ret_bool hb.out.symm, rfl⟩
theorem rInB_is (n lo hi : Int) (b : Bool) (hb : inB n lo hi = b) (w : World) : Calls Tryz.prog 29 #[.int .i64 n, .int .i64 lo, .int .i64 hi] w fun e w' => e = .returned (.bool b) ∧ w = w' := hb ▸ rInB_ n lo hi w
theorem rAbs_ (x : Int) (h1 : -1000000000000 ≤ x) (h2 : x ≤ 1000000000000) (w : World) : Calls Tryz.prog 67 #[.int .i64 x] w fun e w' => e = .returned (.int .i64 (ab x)) ∧ w = w' := by
  by_cases h : x < 0
  · have e : ab x = -x := by unfold ab; omega
    have k : wrap64 (-x) = -x := w64 (by omega) (by omega)
    rw [e]
    clear e
    go_enter Tryz.func67, Tryz.ntmps67
    go_wp2_with fail
    go_ret
    exact ⟨rfl, rfl⟩
  · have e : ab x = x := by unfold ab; omega
    rw [e]
    clear e
    go_enter Tryz.func67, Tryz.ntmps67
    go_wp2_with fail
    go_ret
    exact ⟨rfl, rfl⟩
theorem rcells_ (n : Int) (h1 : 1 ≤ n) (h8 : n ≤ 8) (w : World) : Calls Tryz.prog 54 #[.int .i64 n] w fun e w' => e = .returned (.int .i64 (6 * (n * n))) ∧ w = w' := by
  obtain ⟨k1, k2, k3⟩ := six_in h1 h8
  have s1 : wrap64 (6 * n) = 6 * n := w64 (by omega) (by omega)
  have s2 : wrap64 (6 * (n * n)) = 6 * (n * n) := w64 (by omega) (by omega)
  clear k2 k3
  go_enter Tryz.func54, Tryz.ntmps54
  go_wp2_with fail
  go_ret
  exact ⟨by simp [s2], rfl⟩
theorem rthere_ (n c : Int) (w : World) : Calls Tryz.prog 64 #[.int .i64 n, .int .i64 c] w fun e w' => e = .returned (.bool (thereB n c)) ∧ w = w' := by
  cases b1 : inB n 1 8 with
  | false =>
    have HT : Hid (thereB n c = false) := by show _ = _; unfold thereB; rw [b1]; rfl
    go_enter Tryz.func64, Tryz.ntmps64
    go_wp2_with (go_at_call 29; refine (rInB_ _ _ _ _).mono ?_; rintro e w' ⟨rfl, rfl⟩; rw [b1])
    go_ret
    exact ⟨ret_bool HT.out.symm, rfl⟩
  | true =>
    have h := inB_true.1 b1
    obtain ⟨h1, h8⟩ := h
    obtain ⟨k1, k2, k3⟩ := six_in h1 h8
    obtain ⟨b2, hb2⟩ : ∃ b, inB c 0 (6 * (n * n) - 1) = b := ⟨_, rfl⟩
    have HT : Hid (thereB n c = b2) := by show _ = _; unfold thereB; rw [b1, hb2]; rfl
    have HC := Lib.hid (fun W => rcells_ n h1 h8 W)
    obtain ⟨N, hN⟩ : ∃ N, 6 * (n * n) = N := ⟨_, rfl⟩
    rw [hN] at HC hb2 k2 k3
    have s1 : wrap64 (N - 1) = N - 1 := w64 (by omega) (by omega)
    clear hN k1 k2 k3 h1 h8
    go_enter Tryz.func64, Tryz.ntmps64
    go_wp2_with (first
      | (go_at_call 29; refine (rInB_ _ _ _ _).mono ?_; rintro e w' ⟨rfl, rfl⟩; first | rw [b1] | rw [hb2])
      | (go_at_call 54; refine (HC.out _).mono ?_; rintro e w' ⟨rfl, rfl⟩))
    go_ret
    exact ⟨ret_bool HT.out.symm, rfl⟩
set_option maxRecDepth 100000 in
theorem rCells_ (n : Int) (w : World) : Calls Tryz.prog 23 #[.int .i64 n] w fun e w' => e = .returned (.tuple #[.int .i64 (if inB n 1 8 then 6 * (n * n) else 0), .int .i64 (if inB n 1 8 then 0 else 91)]) ∧ w = w' := by
  cases hg : inB n 1 8 with
  | false =>
    go_enter Tryz.func23, Tryz.ntmps23
    go_wp2_with (go_at_call 29; refine (rInB_ _ _ _ _).mono ?_; rintro e w' ⟨rfl, rfl⟩; rw [hg])
    go_ret2
    exact ⟨rfl, rfl⟩
  | true =>
    have h := inB_true.1 hg
    have HC := Lib.hid (fun W => rcells_ n h.1 h.2 W)
    clear h
    go_enter Tryz.func23, Tryz.ntmps23
    go_wp2_with (first
      | (go_at_call 29; refine (rInB_ _ _ _ _).mono ?_; rintro e w' ⟨rfl, rfl⟩; rw [hg])
      | (go_at_call 54; refine (HC.out _).mono ?_; rintro e w' ⟨rfl, rfl⟩))
    go_ret2
    exact ⟨rfl, rfl⟩
set_option maxRecDepth 100000 in
set_option maxHeartbeats 4000000 in
theorem rdirection_ (n c : Int) (h1 : 1 ≤ n) (h2 : n ≤ 8) (h3 : 0 ≤ c) (h4 : c < 6 * (n * n)) (w : World) :
    Calls Tryz.prog 56 #[.int .i64 n, .int .i64 c] w fun e w' => e = .returned (v3 (dirV n c)) ∧ Below w.heap.size w w' := by
  obtain ⟨m1, m2, m3⟩ := sq_in h1 h2
  obtain ⟨f1, f2⟩ := face_in h3 m1 h4
  obtain ⟨g1, g2⟩ := tdiv_le h3 h1
  obtain ⟨i1, i2⟩ := tmod_in g1 h1
  obtain ⟨j1, j2⟩ := tmod_in h3 h1
  have e : dirV n c = dirF n (c.tdiv (n * n)) ((c.tdiv n).tmod n) (c.tmod n) := rfl
  rw [e]
  clear e
  have n0 : n ≠ 0 := by omega
  have n1 : (n == 0) = false := by simpa using n0
  have k1 : wrap64 (n * n) = n * n := w64 (by omega) (by omega)
  have k2 : wrap64 (c.tdiv (n * n)) = c.tdiv (n * n) := w64 (by omega) (by omega)
  have k3 : wrap64 (c.tdiv n) = c.tdiv n := w64 (by omega) (by omega)
  have nn0 : n * n ≠ 0 := by omega
  generalize hnn : n * n = nn at *
  generalize hf : c.tdiv nn = f at *
  generalize hg : c.tdiv n = g at *
  generalize hi : g.tmod n = i at *
  generalize hj : c.tmod n = j at *
  clear m1 m2 m3 g1 g2 h3 h4
  have n2 : (nn == 0) = false := by simpa using nn0
  go_enter Tryz.func56, Tryz.ntmps56
  go_wp2_with fail
  refine wp_region_bw2 (by kernel_rfl) (by kernel_rfl) (fun hbwc => ?_)
  repeat (go_big_quiet_step (fail))
  refine wpQuiet_nil ?_
  clear hbwc
  intro w1 hb
  obtain ⟨hcw, hfw⟩ := bcell hb
  have HW : Hid (Below w.heap.size w w1) := (show Below w.heap.size w _ from (by repeat (first | exact Below.refl _ _ | assumption | refine below_drewN ?_ _ | refine Below.drew ?_ | refine Below.setCell ?_ (by first | omega | (simp; done) | (simp; omega)) _ | refine Below.alloc ?_ (by first | omega | (simp; done) | (simp; omega)) _))).trans (hb.mono (by first | omega | (simp; done) | (simp; omega)))
  have p0 : w1.cell? ⟨w.heap.size, 0, none⟩ = some (.int .i64 0) := by rw [hcw _ _ (by simp)]; simp [go_sem]
  have p1 : w1.cell? ⟨w.heap.size, 1, none⟩ = some (.int .i64 0) := by rw [hcw _ _ (by simp)]; simp [go_sem]
  have p2 : w1.cell? ⟨w.heap.size, 2, none⟩ = some (.int .i64 0) := by rw [hcw _ _ (by simp)]; simp [go_sem]
  have hz := hb.size
  simp at hz
  have hz1 : w.heap.size < w1.heap.size := by omega
  have q0 : w1.frozen? ⟨w.heap.size, 0, none⟩ = false := by rw [hfw _ _ (by simp)]; simp [go_sem]
  have q1 : w1.frozen? ⟨w.heap.size, 1, none⟩ = false := by rw [hfw _ _ (by simp)]; simp [go_sem]
  have q2 : w1.frozen? ⟨w.heap.size, 2, none⟩ = false := by rw [hfw _ _ (by simp)]; simp [go_sem]
  have P0 := Lib.hid p0
  have P1 := Lib.hid p1
  have P2 := Lib.hid p2
  have HF := Lib.hid hf
  clear hb hcw hfw k1 k2 k3 n0 n1 n2 nn0 hnn hf hg hi hj
  obtain rfl | rfl | rfl | rfl | rfl | rfl : f = 0 ∨ f = 1 ∨ f = 2 ∨ f = 3 ∨ f = 4 ∨ f = 5 := by omega
  · clear f1 f2
    go_wp2_with fail
    refine fin3 w.heap.size (.agg #[.int .i64 (n), .int .i64 (2 * i + 1 - n), .int .i64 (2 * j + 1 - n)]) rfl (fun W e0 e1 e2 => by simp [results, Tryz.results56, go_sem, e0, e1, e2]) P0.out P1.out P2.out ⟨rfl, (((HW.out.setCell (by simp) _).setCell (by simp) _).setCell (by simp) _)⟩
  · clear f1 f2
    go_wp2_with fail
    refine fin3 w.heap.size (.agg #[.int .i64 (-n), .int .i64 (2 * i + 1 - n), .int .i64 (2 * j + 1 - n)]) rfl (fun W e0 e1 e2 => by simp [results, Tryz.results56, go_sem, e0, e1, e2]) P0.out P1.out P2.out ⟨rfl, (((HW.out.setCell (by simp) _).setCell (by simp) _).setCell (by simp) _)⟩
  · clear f1 f2
    go_wp2_with fail
    refine fin3 w.heap.size (.agg #[.int .i64 (2 * i + 1 - n), .int .i64 (n), .int .i64 (2 * j + 1 - n)]) rfl (fun W e0 e1 e2 => by simp [results, Tryz.results56, go_sem, e0, e1, e2]) P0.out P1.out P2.out ⟨rfl, (((HW.out.setCell (by simp) _).setCell (by simp) _).setCell (by simp) _)⟩
  · clear f1 f2
    go_wp2_with fail
    refine fin3 w.heap.size (.agg #[.int .i64 (2 * i + 1 - n), .int .i64 (-n), .int .i64 (2 * j + 1 - n)]) rfl (fun W e0 e1 e2 => by simp [results, Tryz.results56, go_sem, e0, e1, e2]) P0.out P1.out P2.out ⟨rfl, (((HW.out.setCell (by simp) _).setCell (by simp) _).setCell (by simp) _)⟩
  · clear f1 f2
    go_wp2_with fail
    refine fin3 w.heap.size (.agg #[.int .i64 (2 * i + 1 - n), .int .i64 (2 * j + 1 - n), .int .i64 (n)]) rfl (fun W e0 e1 e2 => by simp [results, Tryz.results56, go_sem, e0, e1, e2]) P0.out P1.out P2.out ⟨rfl, (((HW.out.setCell (by simp) _).setCell (by simp) _).setCell (by simp) _)⟩
  · clear f1 f2
    go_wp2_with fail
    refine fin3 w.heap.size (.agg #[.int .i64 (2 * i + 1 - n), .int .i64 (2 * j + 1 - n), .int .i64 (-n)]) rfl (fun W e0 e1 e2 => by simp [results, Tryz.results56, go_sem, e0, e1, e2]) P0.out P1.out P2.out ⟨rfl, (((HW.out.setCell (by simp) _).setCell (by simp) _).setCell (by simp) _)⟩
set_option maxRecDepth 100000 in
set_option maxHeartbeats 4000000 in
theorem rDirection_ (n c : Int) (w : World) : Calls Tryz.prog 25 #[.int .i64 n, .int .i64 c] w (DirT n c w) := by
  cases ht : thereB n c with
  | true =>
    have e : DirT n c w = fun e w' => e = .returned (.tuple #[v3 (dirV n c), .int .i64 0]) ∧ Below w.heap.size w w' := by funext e w'; unfold DirT; rw [ht]; rfl
    rw [e]
    obtain ⟨h1, h2, h3, h4⟩ := there_yes ht
    have HD := Lib.hid (fun W => rdirection_ n c h1 h2 h3 h4 W)
    obtain ⟨d, hd⟩ : ∃ d, dirV n c = d := ⟨_, rfl⟩
    rw [hd] at HD ⊢
    obtain ⟨x, y, z⟩ := d
    have HT := Lib.hid ht
    clear e hd ht h1 h2 h3 h4
    go_enter Tryz.func25, Tryz.ntmps25
    go_wp2_with (go_at_call 64; refine (rthere_ _ _ _).mono ?_; rintro e w' ⟨rfl, rfl⟩; rw [HT.out])
    refine (HD.out _).mono ?_
    rintro e w1 ⟨rfl, hb⟩
    obtain ⟨hcw, hfw⟩ := bcell hb
    have HW : Hid (Below w.heap.size w w1) := (show Below w.heap.size w _ from (by repeat (first | exact Below.refl _ _ | assumption | refine below_drewN ?_ _ | refine Below.drew ?_ | refine Below.setCell ?_ (by first | omega | (simp; done) | (simp; omega)) _ | refine Below.alloc ?_ (by first | omega | (simp; done) | (simp; omega)) _))).trans (hb.mono (by first | omega | (simp; done) | (simp; omega)))
    have p0 : w1.cell? ⟨w.heap.size, 0, none⟩ = some (.int .i64 0) := by rw [hcw _ _ (by simp)]; simp [go_sem]
    have p1 : w1.cell? ⟨w.heap.size, 1, none⟩ = some (.int .i64 0) := by rw [hcw _ _ (by simp)]; simp [go_sem]
    have p2 : w1.cell? ⟨w.heap.size, 2, none⟩ = some (.int .i64 0) := by rw [hcw _ _ (by simp)]; simp [go_sem]
    have hz := hb.size
    simp at hz
    have hz1 : w.heap.size < w1.heap.size := by omega
    have q0 : w1.frozen? ⟨w.heap.size, 0, none⟩ = false := by rw [hfw _ _ (by simp)]; simp [go_sem]
    have q1 : w1.frozen? ⟨w.heap.size, 1, none⟩ = false := by rw [hfw _ _ (by simp)]; simp [go_sem]
    have q2 : w1.frozen? ⟨w.heap.size, 2, none⟩ = false := by rw [hfw _ _ (by simp)]; simp [go_sem]
    have P0 := Lib.hid p0
    have P1 := Lib.hid p1
    have P2 := Lib.hid p2
    clear hb hcw hfw
    go_wp2_with fail
    refine fin3 w.heap.size (.tuple #[v3 (x, y, z), .int .i64 0]) rfl (fun W e0 e1 e2 => by simp [results, Tryz.results25, go_sem, e0, e1, e2]) P0.out P1.out P2.out ⟨rfl, (((HW.out.setCell (by simp) _).setCell (by simp) _).setCell (by simp) _)⟩
  | false =>
    have e : DirT n c w = fun e w' => e = .returned (.tuple #[v3 (0, 0, 0), .int .i64 91]) ∧ Below w.heap.size w w' := by funext e w'; unfold DirT; rw [ht]; rfl
    rw [e]
    clear e
    have P0 : Hid ((w.alloc (.cells #[.int .i64 0, .int .i64 0, .int .i64 0] 43)).cell? ⟨w.heap.size, 0, none⟩ = some (.int .i64 0)) := by show _ = _; simp [go_sem]
    have P1 : Hid ((w.alloc (.cells #[.int .i64 0, .int .i64 0, .int .i64 0] 43)).cell? ⟨w.heap.size, 1, none⟩ = some (.int .i64 0)) := by show _ = _; simp [go_sem]
    have P2 : Hid ((w.alloc (.cells #[.int .i64 0, .int .i64 0, .int .i64 0] 43)).cell? ⟨w.heap.size, 2, none⟩ = some (.int .i64 0)) := by show _ = _; simp [go_sem]
    have HW : Hid (Below w.heap.size w (w.alloc (.cells #[.int .i64 0, .int .i64 0, .int .i64 0] 43))) := (Below.refl _ _).alloc (Nat.le_refl _) _
    have HT := Lib.hid ht
    clear ht
    go_enter Tryz.func25, Tryz.ntmps25
    go_wp2_with (go_at_call 64; refine (rthere_ _ _ _).mono ?_; rintro e w' ⟨rfl, rfl⟩; rw [HT.out])
    refine bodyPost_ret (v := .tuple #[v3 (0, 0, 0), .int .i64 91]) (by simp [results, Tryz.results25, go_sem]) rfl ⟨rfl, ?_⟩
    first | exact HW.out | exact (((HW.out.setCell (by simp) _).setCell (by simp) _).setCell (by simp) _)
end Go.Proofs.YtcclfhdglhbpcaaGreatDoor
