/-
  The walk of the law SkyHome.
-/
import Derived.Test.YtcclfhdglhbpcaaGreatDoorW25
import Derived.Test.YtcclfhdglhbpcaaGreatDoorW26
import Derived.Test.YtcclfhdglhbpcaaGreatDoorW14
import Derived.Test.YtcclfhdglhbpcaaGreatDoorW17
namespace Go.Proofs.YtcclfhdglhbpcaaGreatDoor
open Go.RowKit Al Cell9

theorem rIn_ (n lo hi : Int) (w : World) : Calls Tryz.prog 29 #[.int .i64 n, .int .i64 lo, .int .i64 hi] w fun e w' => e = .returned (.bool (decide (lo ≤ n) && decide (n ≤ hi))) ∧ w = w' := by
  by_cases h1 : lo ≤ n
  · by_cases h2 : n ≤ hi
    · go_enter Tryz.func29, Tryz.ntmps29
      go_wp2_with fail
      go_ret
      exact ⟨ret_bool (by simp [h1, h2]), rfl⟩
    · go_enter Tryz.func29, Tryz.ntmps29
      go_wp2_with fail
      go_ret
      exact ⟨ret_bool (by simp [h2]), rfl⟩
  · go_enter Tryz.func29, Tryz.ntmps29
    go_wp2_with fail
    go_ret
    exact ⟨ret_bool (by simp; intros; omega), rfl⟩
/-- Three ints in a box of their own. -/
def BxA (W : World) (bb : Nat) (d : V3) : Prop := W.heap[bb]? = some (.cells #[.int .i64 d.1, .int .i64 d.2.1, .int .i64 d.2.2] 43 (0, 0))
theorem BxA.lt {W : World} {bb : Nat} {d : V3} (h : BxA W bb d) : bb < W.heap.size := (Array.getElem?_eq_some_iff.1 h).1
theorem BxA.c0 {W : World} {bb : Nat} {d : V3} (h : BxA W bb d) : W.cell? ⟨bb, 0, none⟩ = some (.int .i64 d.1) := by unfold BxA at h; simp [World.cell?, h]
theorem BxA.c1 {W : World} {bb : Nat} {d : V3} (h : BxA W bb d) : W.cell? ⟨bb, 1, none⟩ = some (.int .i64 d.2.1) := by unfold BxA at h; simp [World.cell?, h]
theorem BxA.c2 {W : World} {bb : Nat} {d : V3} (h : BxA W bb d) : W.cell? ⟨bb, 2, none⟩ = some (.int .i64 d.2.2) := by unfold BxA at h; simp [World.cell?, h]
theorem BxA.f {W : World} {bb : Nat} {d : V3} (h : BxA W bb d) (o : Nat) : W.frozen? ⟨bb, o, none⟩ = false := by unfold BxA at h; simp [World.frozen?, h]
theorem BxA.below {W W' : World} {bb : Nat} {d : V3} (h : BxA W bb d) (g : Below W.heap.size W W') : BxA W' bb d := (g.block bb h.lt).trans h
theorem BxA.set {W : World} {bb : Nat} {d : V3} (h : BxA W bb d) (a b c : Int) : BxA (((W.setCell ⟨bb, 0, none⟩ (.int .i64 a)).setCell ⟨bb, 1, none⟩ (.int .i64 b)).setCell ⟨bb, 2, none⟩ (.int .i64 c)) bb (a, b, c) := by
  unfold BxA at *
  have hlt := (Array.getElem?_eq_some_iff.1 h).1
  have e := (Array.getElem?_eq_some_iff.1 h).2
  simp only [World.setCell]
  simp [Array.getElem?_modify, Array.getElem?_eq_getElem hlt, e]
theorem BxA.off {W : World} {bb o : Nat} {d : V3} (h : BxA W bb d) (hne : bb ≠ o) (a b c : Value) : BxA (((W.setCell ⟨o, 0, none⟩ a).setCell ⟨o, 1, none⟩ b).setCell ⟨o, 2, none⟩ c) bb d :=
  (grown_set3 (W := W) (bb := o) (a := a) (b := b) (c := c)).block bb h.lt (fun e => hne (Option.some.inj e)) |>.trans h
theorem mostB_of {v : V3} (h1 : -1000 ≤ v.1 ∧ v.1 ≤ 1000) (h2 : -1000 ≤ v.2.1 ∧ v.2.1 ≤ 1000) (h3 : -1000 ≤ v.2.2 ∧ v.2.2 ≤ 1000) : mostB v 1000 = true := by
  unfold mostB outB
  simp [inB_true.2 h1, inB_true.2 h2, inB_true.2 h3]
theorem mul_small {k d : Int} (hk : 1 ≤ k) (hk2 : k ≤ 100) (h1 : -8 ≤ d) (h2 : d ≤ 8) : -800 ≤ k * d ∧ k * d ≤ 800 := by
  have a := Int.mul_le_mul_of_nonneg_left h2 (show 0 ≤ k by omega)
  have b := Int.mul_le_mul_of_nonneg_left h1 (show 0 ≤ k by omega)
  omega
theorem mul_small2 {d v : Int} (h1 : -8 ≤ d) (h2 : d ≤ 8) (h3 : -1000 ≤ v) (h4 : v ≤ 1000) : -8000 ≤ d * v ∧ d * v ≤ 8000 := by
  obtain rfl | rfl | rfl | rfl | rfl | rfl | rfl | rfl | rfl | rfl | rfl | rfl | rfl | rfl | rfl | rfl | rfl : d = -8 ∨ d = -7 ∨ d = -6 ∨ d = -5 ∨ d = -4 ∨ d = -3 ∨ d = -2 ∨ d = -1 ∨ d = 0 ∨ d = 1 ∨ d = 2 ∨ d = 3 ∨ d = 4 ∨ d = 5 ∨ d = 6 ∨ d = 7 ∨ d = 8 := by omega
  all_goals omega
/-- CellOf at a multiple of a direction. -/
theorem cof_home {n c k : Int} (ht : thereB n c = true) (hk : 1 ≤ k) (hk2 : k ≤ 100) : cofE n (k * (dirV n c).1, k * (dirV n c).2.1, k * (dirV n c).2.2) = 0 ∧ cofV n (k * (dirV n c).1, k * (dirV n c).2.1, k * (dirV n c).2.2) = c := by
  obtain ⟨d0, d1, d2, hne⟩ := dir_in ht
  obtain ⟨h1, h8, h0, h6⟩ := there_yes ht
  have m0 := mul_small hk hk2 d0.1 d0.2
  have m1 := mul_small hk hk2 d1.1 d1.2
  have m2 := mul_small hk hk2 d2.1 d2.2
  have he : cofE n (k * (dirV n c).1, k * (dirV n c).2.1, k * (dirV n c).2.2) = 0 := by
    unfold cofE
    rw [inB_true.2 ⟨h1, h8⟩, mostB_of (by simp only; omega) (by simp only; omega) (by simp only; omega)]
    have hz : (k * (dirV n c).1 == 0 && (k * (dirV n c).2.1 == 0 && k * (dirV n c).2.2 == 0)) = false := by
      cases hb : (k * (dirV n c).1 == 0 && (k * (dirV n c).2.1 == 0 && k * (dirV n c).2.2 == 0)) with
      | false => rfl
      | true =>
        simp only [Bool.and_eq_true, beq_iff_eq, Int.mul_eq_zero] at hb
        exact absurd ⟨by omega, by omega, by omega⟩ hne
    simp only [hz]
    rfl
  exact ⟨he, by unfold cofV; rw [he, if_pos rfl]; exact home_cell ht hk⟩
/-- CellOf where it answers a cell. -/
theorem cof_side {n : Int} {v : V3} (h : cofE n v = 0) : (1 ≤ n ∧ n ≤ 8) ∧ mostB v 1000 = true ∧ thereB n (cofV n v) = true ∧ 0 < (dirV n (cofV n v)).1 * v.1 + (dirV n (cofV n v)).2.1 * v.2.1 + (dirV n (cofV n v)).2.2 * v.2.2 := by
  have hv : cofV n v = cellV n v.1 v.2.1 v.2.2 := by unfold cofV; rw [if_pos h]
  unfold cofE at h
  cases hg : inB n 1 8 with
  | false => rw [hg] at h; cases h
  | true =>
    rw [hg] at h
    cases hm : mostB v 1000 with
    | false => rw [hm] at h; cases h
    | true =>
      rw [hm] at h
      have g := inB_true.1 hg
      have hz : ¬ (v.1 = 0 ∧ v.2.1 = 0 ∧ v.2.2 = 0) := by
        rintro ⟨h1, h2, h3⟩
        simp [h1, h2, h3] at h
      obtain ⟨s1, s2, s3⟩ := cell_side (n := n) (a := v.1) (b := v.2.1) (c := v.2.2) g.1 hz
      rw [hv]
      exact ⟨g, rfl, by unfold thereB; rw [hg, inB_true.2 ⟨s1, by omega⟩]; rfl, s3⟩
set_option maxRecDepth 100000 in
set_option maxHeartbeats 8000000 in
theorem skyHome_ (n x0 x1 v1 v2 v3' : Int) (w : World) (hM : MxL w) : Calls Tryz.prog 6 #[.int .i64 n, .agg #[.int .i64 x0, .int .i64 x1], .agg #[.int .i64 v1, .int .i64 v2, .int .i64 v3']] w fun e w' => e = .returned (.bool true) ∧ Below w.heap.size w w' := by
  have HM := Lib.hid hM
  have HMD := Lib.hid (fun W => Mod_ x1 100 (by omega) (by omega) W)
  obtain ⟨r, hr⟩ : ∃ r, x1 % 100 = r := ⟨_, rfl⟩
  have hr2 : 0 ≤ r ∧ r < 100 := by omega
  rw [hr] at HMD
  obtain ⟨r0, r1⟩ := hr2
  clear hr hM
  go_enter Tryz.func6, Tryz.ntmps6
  go_wp2_with fail
  refine wp_region_bw2 (by kernel_rfl) (by kernel_rfl) (fun hbwc => ?_)
  repeat (go_big_quiet_step ((go_at_call 28; exact bwSame (HMD.out _))))
  refine wpQuiet_nil ?_
  clear hbwc
  intro w1 hb
  have HB1 : Hid (Below w.heap.size w w1) := (show Below w.heap.size w _ from (by repeat (first | exact Below.refl _ _ | assumption | refine below_drewN ?_ _ | refine Below.drew ?_ | refine Below.setCell ?_ (by first | omega | (simp; done) | (simp; omega)) _ | refine Below.alloc ?_ (by first | omega | (simp; done) | (simp; omega)) _))).trans (hb.mono (by first | omega | (simp; done) | (simp; omega)))
  have HV1 : Hid (BxA w1 (w.heap.size + 1) (v1, v2, v3')) := (hb.block (w.heap.size + 1) (by simp)).trans (by
    have h := heap_alloc_new (w.alloc (.cells #[.int .i64 x0, .int .i64 x1] 50)) (.cells #[.int .i64 v1, .int .i64 v2, .int .i64 v3'] 43)
    rw [World.size_alloc] at h
    exact h)
  clear hb
  obtain ⟨k, hk⟩ : ∃ k, 1 + r = k := ⟨_, rfl⟩
  have kk1 : 1 ≤ k ∧ k ≤ 100 := by omega
  go_wp2_with fail
  rw [hk]
  obtain ⟨kk1, kk2⟩ := kk1
  clear hk r0 r1 HMD
  obtain ⟨vb, hvb⟩ : ∃ b, w.heap.size + 1 = b := ⟨_, rfl⟩
  have hvb1 : vb < w1.heap.size := by rw [← hvb]; exact HV1.out.lt
  have hvb0 : w.heap.size < vb := by omega
  rw [hvb] at HV1 ⊢
  clear hvb
  cases ht0 : thereB n x0 with
  | true =>
    have HD0 : Hid (∀ W, Calls Tryz.prog 24 #[.int .i64 n, .int .i64 x0] W fun e w' => e = .returned (.tuple #[v3 (dirV n x0), .int .i64 0]) ∧ Below W.heap.size W w') := fun W => by
      have h := Direction_ n x0 W
      unfold DirT at h
      rw [ht0] at h
      exact h
    obtain ⟨ch1, ch2⟩ := cof_home ht0 kk1 kk2
    obtain ⟨d0, d1, d2, -⟩ := dir_in ht0
    obtain ⟨⟨a1, a2, a3⟩, ha⟩ : ∃ d, dirV n x0 = d := ⟨_, rfl⟩
    rw [ha] at HD0 ch1 ch2 d0 d1 d2
    simp only at ch1 ch2 d0 d1 d2
    have z1 := mul_small kk1 kk2 d0.1 d0.2
    have z2 := mul_small kk1 kk2 d1.1 d1.2
    have z3 := mul_small kk1 kk2 d2.1 d2.2
    obtain ⟨p1, hp1⟩ : ∃ m, k * a1 = m := ⟨_, rfl⟩
    obtain ⟨p2, hp2⟩ : ∃ m, k * a2 = m := ⟨_, rfl⟩
    obtain ⟨p3, hp3⟩ : ∃ m, k * a3 = m := ⟨_, rfl⟩
    rw [hp1] at z1 ch1 ch2
    rw [hp2] at z2 ch1 ch2
    rw [hp3] at z3 ch1 ch2
    have j1 : wrap64 (k * a1) = p1 := by rw [hp1]; exact w64 (by omega) (by omega)
    have j2 : wrap64 (k * a2) = p2 := by rw [hp2]; exact w64 (by omega) (by omega)
    have j3 : wrap64 (k * a3) = p3 := by rw [hp3]; exact w64 (by omega) (by omega)
    have HCH : Hid (∀ W, Calls Tryz.prog 26 #[.int .i64 n, .agg #[.int .i64 p1, .int .i64 p2, .int .i64 p3]] W fun e w' => e = .returned (.tuple #[.int .i64 x0, .int .i64 0]) ∧ Below W.heap.size W w') := fun W => by
      have h := CellOf_ n (p1, p2, p3) W
      unfold CofT at h
      rw [ch1, ch2] at h
      exact h
    clear ch1 ch2 d0 d1 d2 z1 z2 z3 hp1 hp2 hp3 ha ht0
    refine (HD0.out _).mono ?_
    rintro e w2 ⟨rfl, hb⟩
    have HB2 := Lib.hid (Below.tr HB1.out hb)
    have HV2 := Lib.hid (HV1.out.below hb)
    clear hb
    go_wp2_with fail
    have HX : Hid (BxA (w2.alloc (.cells #[.int .i64 a1, .int .i64 a2, .int .i64 a3] 43)) w2.heap.size (a1, a2, a3)) := heap_alloc_new w2 _
    have HB : Hid (Below w.heap.size w (w2.alloc (.cells #[.int .i64 a1, .int .i64 a2, .int .i64 a3] 43))) := Below.tr HB2.out (Below.al _)
    have HV : Hid (BxA (w2.alloc (.cells #[.int .i64 a1, .int .i64 a2, .int .i64 a3] 43)) vb (v1, v2, v3')) := HV2.out.below (Below.al _)
    have hne : vb ≠ w2.heap.size := by have := HV2.out.lt; omega
    have hdb1 : w.heap.size ≤ w2.heap.size := HB2.out.size
    obtain ⟨db, hdb⟩ : ∃ b, w2.heap.size = b := ⟨_, rfl⟩
    obtain ⟨wx, hwx⟩ : ∃ W, w2.alloc (.cells #[.int .i64 a1, .int .i64 a2, .int .i64 a3] 43) = W := ⟨_, rfl⟩
    rw [hwx] at HX HB HV ⊢
    rw [hdb] at HX hne hdb1 ⊢
    clear hwx hdb j1 j2 j3
    refine (HCH.out _).mono ?_
    rintro e w3 ⟨rfl, hb⟩
    replace HB := Lib.hid (Below.tr HB.out hb)
    replace HX := Lib.hid (HX.out.below hb)
    replace HV := Lib.hid (HV.out.below hb)
    clear hb
    have l0 := HV.out.c0
    have l1 := HV.out.c1
    have l2 := HV.out.c2
    simp only at l0 l1 l2
    go_wp2_with fail
    refine (CellOf_ n (v1, v2, v3') _).mono ?_
    rintro e w4 ⟨rfl, hb⟩
    have HB4 := Lib.hid (Below.tr HB.out hb)
    have HX4 := Lib.hid (HX.out.below hb)
    have HV4 := Lib.hid (HV.out.below hb)
    clear hb
    obtain ⟨ce, hce⟩ : ∃ ce, cofE n (v1, v2, v3') = ce := ⟨_, rfl⟩
    obtain ⟨cv, hcv⟩ : ∃ cv, cofV n (v1, v2, v3') = cv := ⟨_, rfl⟩
    rw [hce, hcv]
    by_cases h0 : ce = 0
    · obtain ⟨⟨n1, n8⟩, hmo, ht, hsd⟩ := cof_side (hce.trans h0)
      rw [hcv] at ht hsd
      have hbs := mostB_in hmo
      obtain ⟨t1, t2, t3, t4⟩ := there_yes ht
      obtain ⟨d0, d1, d2, -⟩ := dir_in ht
      have HC := Lib.hid (fun W => Cells_ n W)
      rw [inB_true.2 ⟨n1, n8⟩] at HC
      have HD : Hid (∀ W, Calls Tryz.prog 24 #[.int .i64 n, .int .i64 cv] W fun e w' => e = .returned (.tuple #[v3 (dirV n cv), .int .i64 0]) ∧ Below W.heap.size W w') := fun W => by
        have h := Direction_ n cv W
        unfold DirT at h
        rw [ht] at h
        exact h
      obtain ⟨⟨e1, e2, e3⟩, he⟩ : ∃ d, dirV n cv = d := ⟨_, rfl⟩
      rw [he] at d0 d1 d2 hsd HD
      simp only at d0 d1 d2 hsd hbs
      obtain ⟨g1, g2⟩ := mul_small2 d0.1 d0.2 hbs.1.1 hbs.1.2
      obtain ⟨g3, g4⟩ := mul_small2 d1.1 d1.2 hbs.2.1.1 hbs.2.1.2
      obtain ⟨g5, g6⟩ := mul_small2 d2.1 d2.2 hbs.2.2.1 hbs.2.2.2
      obtain ⟨m1, hm1⟩ : ∃ m, e1 * v1 = m := ⟨_, rfl⟩
      obtain ⟨m2, hm2⟩ : ∃ m, e2 * v2 = m := ⟨_, rfl⟩
      obtain ⟨m3, hm3⟩ : ∃ m, e3 * v3' = m := ⟨_, rfl⟩
      rw [hm1] at g1 g2 hsd
      rw [hm2] at g3 g4 hsd
      rw [hm3] at g5 g6 hsd
      have k1 : wrap64 (e1 * v1) = m1 := by rw [hm1]; exact w64 (by omega) (by omega)
      have k2 : wrap64 (e2 * v2) = m2 := by rw [hm2]; exact w64 (by omega) (by omega)
      have k3 : wrap64 (e3 * v3') = m3 := by rw [hm3]; exact w64 (by omega) (by omega)
      obtain ⟨N, hN⟩ : ∃ N, 6 * (n * n) = N := ⟨_, rfl⟩
      have hNb : 6 ≤ N ∧ N ≤ 384 := by rw [← hN]; exact (six_in n1 n8).2
      obtain ⟨N1, N2⟩ := hNb
      rw [hN] at HC t4
      simp only [if_true] at HC
      have b1 : (decide (0 ≤ cv) && decide (cv ≤ N - 1)) = true := by simp; omega
      clear d0 d1 d2 hm1 hm2 hm3 hN he ht hmo hbs
      subst h0
      clear hce hcv
      go_wp2_with (first
        | (go_at_call 22; refine (HC.out _).mono ?_; rintro e w' ⟨rfl, rfl⟩)
        | (go_at_call 29; refine (rIn_ _ _ _ _).mono ?_; rintro e w' ⟨rfl, rfl⟩; rw [b1]))
      refine (HD.out _).mono ?_
      rintro e w5 ⟨rfl, hb⟩
      have HB5 := Lib.hid (Below.tr HB4.out hb)
      have HX5 := Lib.hid (HX4.out.below hb)
      have HV5 := Lib.hid (HV4.out.below hb)
      clear hb l0 l1 l2 b1
      have HX6 := Lib.hid (HX5.out.set e1 e2 e3)
      have HV6 := Lib.hid (HV5.out.off hne (.int .i64 e1) (.int .i64 e2) (.int .i64 e3))
      have HB6 : Hid (Below w.heap.size w (((w5.setCell ⟨db, 0, none⟩ (.int .i64 e1)).setCell ⟨db, 1, none⟩ (.int .i64 e2)).setCell ⟨db, 2, none⟩ (.int .i64 e3))) := (((HB5.out.setCell hdb1 _).setCell hdb1 _).setCell hdb1 _)
      have y0 := HX5.out.c0
      have y1 := HX5.out.c1
      have y2 := HX5.out.c2
      have f0 := HX5.out.f 0
      have f1 := HX5.out.f 1
      have f2 := HX5.out.f 2
      have q0 := HX6.out.c0
      have q1 := HX6.out.c1
      have q2 := HX6.out.c2
      have l0 := HV6.out.c0
      have l1 := HV6.out.c1
      have l2 := HV6.out.c2
      simp only at y0 y1 y2 q0 q1 q2 l0 l1 l2
      go_wp2_with fail
      refine (works_ _ (HM.out.below HB6.out (Nat.le_refl _))).mono ?_
      rintro e w7 ⟨rfl, hb⟩
      have HB7 := Lib.hid (Below.tr HB6.out hb)
      clear hb y0 y1 y2 f0 f1 f2 q0 q1 q2 l0 l1 l2
      go_wp2_with fail
      go_ret
      exact ⟨rfl, HB7.out⟩
    · have hc0 : cv = 0 := by rw [← hcv]; unfold cofV; rw [hce, if_neg h0]
      subst hc0
      have h0' : (ce != 0) = true := by simpa using h0
      clear hcv hce
      go_wp2_with fail
      refine (works_ _ (HM.out.below HB4.out (Nat.le_refl _))).mono ?_
      rintro e w5 ⟨rfl, hb⟩
      have HB5 := Lib.hid (Below.tr HB4.out hb)
      clear hb
      go_wp2_with fail
      go_ret
      exact ⟨rfl, HB5.out⟩
  | false =>
    have HD0 : Hid (∀ W, Calls Tryz.prog 24 #[.int .i64 n, .int .i64 x0] W fun e w' => e = .returned (.tuple #[v3 (0, 0, 0), .int .i64 91]) ∧ Below W.heap.size W w') := fun W => by
      have h := Direction_ n x0 W
      unfold DirT at h
      rw [ht0] at h
      exact h
    clear ht0
    refine (HD0.out _).mono ?_
    rintro e w2 ⟨rfl, hb⟩
    have HB2 := Lib.hid (Below.tr HB1.out hb)
    have HV2 := Lib.hid (HV1.out.below hb)
    clear hb
    have HX : Hid (BxA (w2.alloc (.cells #[.int .i64 0, .int .i64 0, .int .i64 0] 43)) w2.heap.size (0, 0, 0)) := heap_alloc_new w2 _
    have HB : Hid (Below w.heap.size w (w2.alloc (.cells #[.int .i64 0, .int .i64 0, .int .i64 0] 43))) := Below.tr HB2.out (Below.al _)
    have HV : Hid (BxA (w2.alloc (.cells #[.int .i64 0, .int .i64 0, .int .i64 0] 43)) vb (v1, v2, v3')) := HV2.out.below (Below.al _)
    have hne : vb ≠ w2.heap.size := by have := HV2.out.lt; omega
    have hdb1 : w.heap.size ≤ w2.heap.size := HB2.out.size
    have l0 := HV.out.c0
    have l1 := HV.out.c1
    have l2 := HV.out.c2
    simp only at l0 l1 l2
    go_wp2_with fail
    obtain ⟨db, hdb⟩ : ∃ b, w2.heap.size = b := ⟨_, rfl⟩
    obtain ⟨wx, hwx⟩ : ∃ W, w2.alloc (.cells #[.int .i64 0, .int .i64 0, .int .i64 0] 43) = W := ⟨_, rfl⟩
    rw [hwx] at HX HB HV ⊢
    rw [hdb] at HX hne hdb1 ⊢
    clear hwx hdb l0 l1 l2
    refine (CellOf_ n (v1, v2, v3') _).mono ?_
    rintro e w4 ⟨rfl, hb⟩
    have HB4 := Lib.hid (Below.tr HB.out hb)
    have HX4 := Lib.hid (HX.out.below hb)
    have HV4 := Lib.hid (HV.out.below hb)
    clear hb
    obtain ⟨ce, hce⟩ : ∃ ce, cofE n (v1, v2, v3') = ce := ⟨_, rfl⟩
    obtain ⟨cv, hcv⟩ : ∃ cv, cofV n (v1, v2, v3') = cv := ⟨_, rfl⟩
    rw [hce, hcv]
    by_cases h0 : ce = 0
    · obtain ⟨⟨n1, n8⟩, hmo, ht, hsd⟩ := cof_side (hce.trans h0)
      rw [hcv] at ht hsd
      have hbs := mostB_in hmo
      obtain ⟨t1, t2, t3, t4⟩ := there_yes ht
      obtain ⟨d0, d1, d2, -⟩ := dir_in ht
      have HC := Lib.hid (fun W => Cells_ n W)
      rw [inB_true.2 ⟨n1, n8⟩] at HC
      have HD : Hid (∀ W, Calls Tryz.prog 24 #[.int .i64 n, .int .i64 cv] W fun e w' => e = .returned (.tuple #[v3 (dirV n cv), .int .i64 0]) ∧ Below W.heap.size W w') := fun W => by
        have h := Direction_ n cv W
        unfold DirT at h
        rw [ht] at h
        exact h
      obtain ⟨⟨e1, e2, e3⟩, he⟩ : ∃ d, dirV n cv = d := ⟨_, rfl⟩
      rw [he] at d0 d1 d2 hsd HD
      simp only at d0 d1 d2 hsd hbs
      obtain ⟨g1, g2⟩ := mul_small2 d0.1 d0.2 hbs.1.1 hbs.1.2
      obtain ⟨g3, g4⟩ := mul_small2 d1.1 d1.2 hbs.2.1.1 hbs.2.1.2
      obtain ⟨g5, g6⟩ := mul_small2 d2.1 d2.2 hbs.2.2.1 hbs.2.2.2
      obtain ⟨m1, hm1⟩ : ∃ m, e1 * v1 = m := ⟨_, rfl⟩
      obtain ⟨m2, hm2⟩ : ∃ m, e2 * v2 = m := ⟨_, rfl⟩
      obtain ⟨m3, hm3⟩ : ∃ m, e3 * v3' = m := ⟨_, rfl⟩
      rw [hm1] at g1 g2 hsd
      rw [hm2] at g3 g4 hsd
      rw [hm3] at g5 g6 hsd
      have k1 : wrap64 (e1 * v1) = m1 := by rw [hm1]; exact w64 (by omega) (by omega)
      have k2 : wrap64 (e2 * v2) = m2 := by rw [hm2]; exact w64 (by omega) (by omega)
      have k3 : wrap64 (e3 * v3') = m3 := by rw [hm3]; exact w64 (by omega) (by omega)
      obtain ⟨N, hN⟩ : ∃ N, 6 * (n * n) = N := ⟨_, rfl⟩
      have hNb : 6 ≤ N ∧ N ≤ 384 := by rw [← hN]; exact (six_in n1 n8).2
      obtain ⟨N1, N2⟩ := hNb
      rw [hN] at HC t4
      simp only [if_true] at HC
      have b1 : (decide (0 ≤ cv) && decide (cv ≤ N - 1)) = true := by simp; omega
      clear d0 d1 d2 hm1 hm2 hm3 hN he ht hmo hbs
      subst h0
      clear hce hcv
      go_wp2_with (first
        | (go_at_call 22; refine (HC.out _).mono ?_; rintro e w' ⟨rfl, rfl⟩)
        | (go_at_call 29; refine (rIn_ _ _ _ _).mono ?_; rintro e w' ⟨rfl, rfl⟩; rw [b1]))
      refine (HD.out _).mono ?_
      rintro e w5 ⟨rfl, hb⟩
      have HB5 := Lib.hid (Below.tr HB4.out hb)
      have HX5 := Lib.hid (HX4.out.below hb)
      have HV5 := Lib.hid (HV4.out.below hb)
      clear hb b1
      have HX6 := Lib.hid (HX5.out.set e1 e2 e3)
      have HV6 := Lib.hid (HV5.out.off hne (.int .i64 e1) (.int .i64 e2) (.int .i64 e3))
      have HB6 : Hid (Below w.heap.size w (((w5.setCell ⟨db, 0, none⟩ (.int .i64 e1)).setCell ⟨db, 1, none⟩ (.int .i64 e2)).setCell ⟨db, 2, none⟩ (.int .i64 e3))) := (((HB5.out.setCell hdb1 _).setCell hdb1 _).setCell hdb1 _)
      have y0 := HX5.out.c0
      have y1 := HX5.out.c1
      have y2 := HX5.out.c2
      have f0 := HX5.out.f 0
      have f1 := HX5.out.f 1
      have f2 := HX5.out.f 2
      have q0 := HX6.out.c0
      have q1 := HX6.out.c1
      have q2 := HX6.out.c2
      have l0 := HV6.out.c0
      have l1 := HV6.out.c1
      have l2 := HV6.out.c2
      simp only at y0 y1 y2 q0 q1 q2 l0 l1 l2
      go_wp2_with fail
      refine (works_ _ (HM.out.below HB6.out (Nat.le_refl _))).mono ?_
      rintro e w7 ⟨rfl, hb⟩
      have HB7 := Lib.hid (Below.tr HB6.out hb)
      clear hb y0 y1 y2 f0 f1 f2 q0 q1 q2 l0 l1 l2
      go_wp2_with fail
      go_ret
      exact ⟨rfl, HB7.out⟩
    · have hc0 : cv = 0 := by rw [← hcv]; unfold cofV; rw [hce, if_neg h0]
      subst hc0
      have h0' : (ce != 0) = true := by simpa using h0
      clear hcv hce
      go_wp2_with fail
      refine (works_ _ (HM.out.below HB4.out (Nat.le_refl _))).mono ?_
      rintro e w5 ⟨rfl, hb⟩
      have HB5 := Lib.hid (Below.tr HB4.out hb)
      clear hb
      go_wp2_with fail
      go_ret
      exact ⟨rfl, HB5.out⟩
end Go.Proofs.YtcclfhdglhbpcaaGreatDoor
