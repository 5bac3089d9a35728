/-
  The walks of the specification's vectors: vector, dot, minus, rooted, on.
-/
import Derived.Test.YtcclfhdglhbpcaaGreatDoorW29
import Derived.Test.YtcclfhdglhbpcaaGreatDoorW37
import Derived.Test.YtcclfhdglhbpcaaGreatDoorW25
namespace Go.Proofs.YtcclfhdglhbpcaaGreatDoor
open Go.RowKit Al Ring9

theorem mostB_and (a b c m : Int) : mostB (a, b, c) m = (inB a (-m) m && (inB b (-m) m && inB c (-m) m)) := by
  unfold mostB outB
  cases h1 : inB a (-m) m <;> cases h2 : inB b (-m) m <;> cases h3 : inB c (-m) m <;> simp [h1, h2, h3]
set_option maxRecDepth 100000 in
theorem rvector_ (a b c m : Int) (hm : wrap64 (-m) = -m) (w : World) : Calls Tryz.prog 87 #[.agg #[.int .i64 a, .int .i64 b, .int .i64 c], .int .i64 m] w fun e w' => e = .returned (.bool (mostB (a, b, c) m)) ∧ Below w.heap.size w w' := by
  rw [mostB_and]
  cases b1 : inB a (-m) m with
  | false =>
    go_enter Tryz.func87, Tryz.ntmps87
    go_wp2_with (go_at_call 29; refine (rInB_ _ _ _ _).mono ?_; rintro e w' ⟨rfl, rfl⟩; rw [b1])
    go_ret
    exact ⟨rfl, (by repeat (first | exact Below.refl _ _ | assumption | refine below_drewN ?_ _ | refine Below.drew ?_ | refine Below.setCell ?_ (by first | omega | (simp; done) | (simp; omega)) _ | refine Below.alloc ?_ (by first | omega | (simp; done) | (simp; omega)) _))⟩
  | true =>
    cases b2 : inB b (-m) m with
    | false =>
      go_enter Tryz.func87, Tryz.ntmps87
      go_wp2_with (go_at_call 29; refine (rInB_ _ _ _ _).mono ?_; rintro e w' ⟨rfl, rfl⟩; first | rw [b1] | rw [b2])
      go_ret
      exact ⟨rfl, (by repeat (first | exact Below.refl _ _ | assumption | refine below_drewN ?_ _ | refine Below.drew ?_ | refine Below.setCell ?_ (by first | omega | (simp; done) | (simp; omega)) _ | refine Below.alloc ?_ (by first | omega | (simp; done) | (simp; omega)) _))⟩
    | true =>
      obtain ⟨q, b3⟩ : ∃ q, inB c (-m) m = q := ⟨_, rfl⟩
      rw [b3]
      go_enter Tryz.func87, Tryz.ntmps87
      go_wp2_with (go_at_call 29; refine (rInB_ _ _ _ _).mono ?_; rintro e w' ⟨rfl, rfl⟩; first | rw [b1] | rw [b2] | rw [b3])
      go_ret
      exact ⟨rfl, (by repeat (first | exact Below.refl _ _ | assumption | refine below_drewN ?_ _ | refine Below.drew ?_ | refine Below.setCell ?_ (by first | omega | (simp; done) | (simp; omega)) _ | refine Below.alloc ?_ (by first | omega | (simp; done) | (simp; omega)) _))⟩
set_option maxRecDepth 100000 in
theorem rdot_ (a b c x y z : Int) (w : World) : Calls Tryz.prog 104 #[.agg #[.int .i64 a, .int .i64 b, .int .i64 c], .agg #[.int .i64 x, .int .i64 y, .int .i64 z]] w fun e w' => e = .returned (.int .i64 (dotW (a, b, c) (x, y, z))) ∧ Below w.heap.size w w' := by
  have e : dotW (a, b, c) (x, y, z) = wrap64 (wrap64 (wrap64 (a * x) + wrap64 (b * y)) + wrap64 (c * z)) := rfl
  rw [e]
  clear e
  go_enter Tryz.func104, Tryz.ntmps104
  go_wp2_with fail
  go_ret
  exact ⟨rfl, (by repeat (first | exact Below.refl _ _ | assumption | refine below_drewN ?_ _ | refine Below.drew ?_ | refine Below.setCell ?_ (by first | omega | (simp; done) | (simp; omega)) _ | refine Below.alloc ?_ (by first | omega | (simp; done) | (simp; omega)) _))⟩
set_option maxRecDepth 100000 in
theorem rminus_ (a b c x y z : Int) (ha : -65536 ≤ a ∧ a ≤ 65536) (hb : -65536 ≤ b ∧ b ≤ 65536) (hc : -65536 ≤ c ∧ c ≤ 65536) (hx : -65536 ≤ x ∧ x ≤ 65536) (hy : -65536 ≤ y ∧ y ≤ 65536) (hz : -65536 ≤ z ∧ z ≤ 65536) (w : World) :
    Calls Tryz.prog 105 #[.agg #[.int .i64 a, .int .i64 b, .int .i64 c], .agg #[.int .i64 x, .int .i64 y, .int .i64 z]] w fun e w' => e = .returned (v3 (a - x, b - y, c - z)) ∧ Below w.heap.size w w' := by
  obtain ⟨a1, a2⟩ := ha
  obtain ⟨b1, b2⟩ := hb
  obtain ⟨c1, c2⟩ := hc
  obtain ⟨x1, x2⟩ := hx
  obtain ⟨y1, y2⟩ := hy
  obtain ⟨z1, z2⟩ := hz
  go_enter Tryz.func105, Tryz.ntmps105
  go_wp2_with fail
  refine bodyPost_ret (v := v3 (a - x, b - y, c - z)) (by simp [results, Tryz.results105, go_sem]) rfl ⟨rfl, (by repeat (first | exact Below.refl _ _ | assumption | refine below_drewN ?_ _ | refine Below.drew ?_ | refine Below.setCell ?_ (by first | omega | (simp; done) | (simp; omega)) _ | refine Below.alloc ?_ (by first | omega | (simp; done) | (simp; omega)) _))⟩
theorem rClamp_ (m : Int) (w : World) : Calls Tryz.prog 133 #[.int .i64 m, .int .i64 (-16777216), .int .i64 16777216] w fun e w' => e = .returned (.int .i64 (clampB 16777216 m)) ∧ w = w' := by
  have HE : Hid (max (-16777216) (min m 16777216) = clampB 16777216 m) := by show _ = _; unfold clampB; omega
  go_enter Tryz.func133, Tryz.ntmps133
  go_wp2_with fail
  go_ret
  exact ⟨by rw [← HE.out]; rfl, rfl⟩
set_option maxRecDepth 100000 in
theorem rrooted_ (k m x : Int) (hm : 1 ≤ m ∧ m ≤ 192) (hx : -4194304 ≤ x ∧ x ≤ 4194304) (w : World) : Calls Tryz.prog 106 #[.int .i64 k, .int .i64 m, .int .i64 x] w fun e w' => e = .returned (.int .i64 (rootedS (clampB 16777216 k) m x)) ∧ w = w' := by
  have hc : -16777216 ≤ clampB 16777216 k ∧ clampB 16777216 k ≤ 16777216 := by unfold clampB; omega
  have HC := Lib.hid (fun W => rClamp_ k W)
  obtain ⟨K, hK⟩ : ∃ K, clampB 16777216 k = K := ⟨_, rfl⟩
  rw [hK] at hc HC ⊢
  clear hK
  have hkk := sqb hc.1 hc.2
  have hk0 := sq_nn K
  have hxx := sqb hx.1 hx.2
  have hx0 := sq_nn x
  rw [show (16777216 : Int) * 16777216 = 281474976710656 by decide] at hkk
  rw [show (4194304 : Int) * 4194304 = 17592186044416 by decide] at hxx
  obtain ⟨A, hA⟩ : ∃ A, K * K = A := ⟨_, rfl⟩
  obtain ⟨X, hX⟩ : ∃ X, x * x = X := ⟨_, rfl⟩
  rw [hA] at hkk hk0
  rw [hX] at hxx hx0
  have hB0 := mulb (x := A) (d := m) (b := 281474976710656) (c := 192) (by omega) (by omega) (by decide) (by omega) hm.2
  rw [show (281474976710656 : Int) * 192 = 54043195528445952 by decide] at hB0
  have hAm : 0 ≤ A * m := Int.mul_nonneg hk0 (by omega)
  obtain ⟨B, hB⟩ : ∃ B, A * m = B := ⟨_, rfl⟩
  rw [hB] at hB0 hAm
  have s1 : wrap64 (K * K) = A := by rw [hA]; exact w62 (by omega) (by omega)
  have s2 : wrap64 (A * m) = B := by rw [hB]; exact w62 (by omega) (by omega)
  have s3 : wrap64 (x * x) = X := by rw [hX]; exact w62 (by omega) (by omega)
  have hsk : ssq K * m = if K < 0 then -B else B := by
    unfold ssq
    rw [hA]
    split
    · rw [Int.neg_mul, hB]
    · exact hB
  have hsx : ssq x = if x < 0 then -X else X := by unfold ssq; rw [hX]
  obtain ⟨r, hr⟩ : ∃ r, rootedS K m x = r := ⟨_, rfl⟩
  have hr2 : r = if (if K < 0 then -B else B) < (if x < 0 then -X else X) then -1 else if (if x < 0 then -X else X) < (if K < 0 then -B else B) then 1 else 0 := by rw [← hr]; unfold rootedS; rw [hsk, hsx]
  rw [hr]
  have HR := Lib.hid hr2
  obtain ⟨B1, B2⟩ := hB0
  clear hr hr2 hsk hsx hA hX hB hc hkk
  by_cases hk : K < 0
  · by_cases hx1 : x < 0
    · have HR2 : Hid (r = if -B < -X then -1 else if -X < -B then 1 else 0) := by have := HR.out; rw [if_pos hk, if_pos hx1] at this; exact this
      clear HR
      go_enter Tryz.func106, Tryz.ntmps106
      go_wp2_with (go_at_call 133; refine (HC.out _).mono ?_; rintro e w' ⟨rfl, rfl⟩)
      all_goals
        go_ret
        refine ⟨?_, rfl⟩
        rw [HR2.out]
        first
          | (rw [if_pos (by omega)]; rfl)
          | (rw [if_neg (by omega), if_pos (by omega)]; rfl)
          | (rw [if_neg (by omega), if_neg (by omega)]; rfl)
    · have HR2 : Hid (r = if -B < X then -1 else if X < -B then 1 else 0) := by have := HR.out; rw [if_pos hk, if_neg hx1] at this; exact this
      clear HR
      go_enter Tryz.func106, Tryz.ntmps106
      go_wp2_with (go_at_call 133; refine (HC.out _).mono ?_; rintro e w' ⟨rfl, rfl⟩)
      all_goals
        go_ret
        refine ⟨?_, rfl⟩
        rw [HR2.out]
        first
          | (rw [if_pos (by omega)]; rfl)
          | (rw [if_neg (by omega), if_pos (by omega)]; rfl)
          | (rw [if_neg (by omega), if_neg (by omega)]; rfl)
  · by_cases hx1 : x < 0
    · have HR2 : Hid (r = if B < -X then -1 else if -X < B then 1 else 0) := by have := HR.out; rw [if_neg hk, if_pos hx1] at this; exact this
      clear HR
      go_enter Tryz.func106, Tryz.ntmps106
      go_wp2_with (go_at_call 133; refine (HC.out _).mono ?_; rintro e w' ⟨rfl, rfl⟩)
      all_goals
        go_ret
        refine ⟨?_, rfl⟩
        rw [HR2.out]
        first
          | (rw [if_pos (by omega)]; rfl)
          | (rw [if_neg (by omega), if_pos (by omega)]; rfl)
          | (rw [if_neg (by omega), if_neg (by omega)]; rfl)
    · have HR2 : Hid (r = if B < X then -1 else if X < B then 1 else 0) := by have := HR.out; rw [if_neg hk, if_neg hx1] at this; exact this
      clear HR
      go_enter Tryz.func106, Tryz.ntmps106
      go_wp2_with (go_at_call 133; refine (HC.out _).mono ?_; rintro e w' ⟨rfl, rfl⟩)
      all_goals
        go_ret
        refine ⟨?_, rfl⟩
        rw [HR2.out]
        first
          | (rw [if_pos (by omega)]; rfl)
          | (rw [if_neg (by omega), if_pos (by omega)]; rfl)
          | (rw [if_neg (by omega), if_neg (by omega)]; rfl)
theorem rooted_is (k m x r : Int) (hr : rootedS (clampB 16777216 k) m x = r) (hm : 1 ≤ m ∧ m ≤ 192) (hx : -4194304 ≤ x ∧ x ≤ 4194304) (w : World) : Calls Tryz.prog 106 #[.int .i64 k, .int .i64 m, .int .i64 x] w fun e w' => e = .returned (.int .i64 r) ∧ w = w' := hr ▸ rrooted_ k m x hm hx w
theorem dot_sub {p q d : V3} (hp : Plc9 p) (hq : Plc9 q) (hd : Dir9 d) : dotW (p.1 - q.1, p.2.1 - q.2.1, p.2.2 - q.2.2) d = dotI p d - dotI q d ∧ -4194304 ≤ dotI p d - dotI q d ∧ dotI p d - dotI q d ≤ 4194304 := by
  obtain ⟨e1, e2, e3⟩ := dot_is hp hd
  obtain ⟨g1, g2, g3⟩ := dot_is hq hd
  obtain ⟨a1, a2⟩ := mulc hp.a.1 hp.a.2 (by omega) hd.a.1 hd.a.2
  obtain ⟨b1, b2⟩ := mulc hp.b.1 hp.b.2 (by omega) hd.b.1 hd.b.2
  obtain ⟨c1, c2⟩ := mulc hp.c.1 hp.c.2 (by omega) hd.c.1 hd.c.2
  obtain ⟨a3, a4⟩ := mulc hq.a.1 hq.a.2 (by omega) hd.a.1 hd.a.2
  obtain ⟨b3, b4⟩ := mulc hq.b.1 hq.b.2 (by omega) hd.b.1 hd.b.2
  obtain ⟨c3, c4⟩ := mulc hq.c.1 hq.c.2 (by omega) hd.c.1 hd.c.2
  unfold dotW dotI
  simp only
  rw [Int.sub_mul, Int.sub_mul, Int.sub_mul]
  rw [w62 (x := p.1 * d.1 - q.1 * d.1) (by omega) (by omega), w62 (x := p.2.1 * d.2.1 - q.2.1 * d.2.1) (by omega) (by omega), w62 (x := p.2.2 * d.2.2 - q.2.2 * d.2.2) (by omega) (by omega), w62 (x := p.1 * d.1 - q.1 * d.1 + (p.2.1 * d.2.1 - q.2.1 * d.2.1)) (by omega) (by omega), w62 (by omega) (by omega)]
  unfold dotI at e2 e3 g2 g3
  exact ⟨by omega, by omega, by omega⟩
set_option maxRecDepth 100000 in
set_option maxHeartbeats 4000000 in
theorem ron_ (a b : NSi) (d : V3) (n sl : Int) (ha : Plc9 a.s.p) (hb : Plc9 b.s.p) (hd : Dir9 d) (hn : -4000000000000 ≤ n) (hn' : n ≤ 4000000000000) (hs : 0 ≤ sl) (hs' : sl ≤ 1000000) (w : World) :
    Calls Tryz.prog 55 #[a.val, b.val, v3 d, .int .i64 n, .int .i64 sl] w fun e w' => e = .returned (.bool (onS a.s.p b.s.p d n sl)) ∧ Below w.heap.size w w' := by
  obtain ⟨e1, e2, e3⟩ := dot_sub ha hb hd
  obtain ⟨f1, f2, f3⟩ := dd_is hd
  have HMI := Lib.hid (fun W => rminus_ a.s.p.1 a.s.p.2.1 a.s.p.2.2 b.s.p.1 b.s.p.2.1 b.s.p.2.2 ha.a ha.b ha.c hb.a hb.b hb.c W)
  obtain ⟨X, hX⟩ : ∃ X, dotI a.s.p d - dotI b.s.p d = X := ⟨_, rfl⟩
  obtain ⟨D, hD⟩ : ∃ D, dotI d d = D := ⟨_, rfl⟩
  have HO : onS a.s.p b.s.p d n sl = (decide (rootedS (clampB 16777216 (n - sl)) D X ≤ 0) && decide (0 ≤ rootedS (clampB 16777216 (n + sl)) D X)) := by unfold onS; rw [hX, hD]
  rw [hX] at e1 e2 e3
  rw [hD] at f1 f2 f3
  obtain ⟨r1, hr1⟩ : ∃ r, rootedS (clampB 16777216 (n - sl)) D X = r := ⟨_, rfl⟩
  obtain ⟨r2, hr2⟩ : ∃ r, rootedS (clampB 16777216 (n + sl)) D X = r := ⟨_, rfl⟩
  have HR1 := Lib.hid (fun W => rooted_is (n - sl) D X r1 hr1 ⟨f2, f3⟩ ⟨e2, e3⟩ W)
  have HR2 := Lib.hid (fun W => rooted_is (n + sl) D X r2 hr2 ⟨f2, f3⟩ ⟨e2, e3⟩ W)
  rw [hr1, hr2] at HO
  rw [HO]
  clear HO hX hD hr1 hr2 e2 e3 f2 f3 ha hb hd
  obtain ⟨an, ⟨⟨p1, p2, p3⟩, ⟨q1, q2, q3⟩, ⟨u1, u2, u3⟩⟩⟩ := a
  obtain ⟨bn, ⟨⟨g1, g2, g3⟩, ⟨h1, h2, h3⟩, ⟨k1, k2, k3⟩⟩⟩ := b
  obtain ⟨x, y, z⟩ := d
  simp only at HMI e1
  have HD1 : Hid (∀ W, Calls Tryz.prog 104 #[.agg #[.int .i64 (p1 - g1), .int .i64 (p2 - g2), .int .i64 (p3 - g3)], .agg #[.int .i64 x, .int .i64 y, .int .i64 z]] W fun e w' => e = .returned (.int .i64 X) ∧ Below W.heap.size W w') := fun W => by
    have h := rdot_ (p1 - g1) (p2 - g2) (p3 - g3) x y z W
    rw [e1] at h
    exact h
  have HD2 : Hid (∀ W, Calls Tryz.prog 104 #[.agg #[.int .i64 x, .int .i64 y, .int .i64 z], .agg #[.int .i64 x, .int .i64 y, .int .i64 z]] W fun e w' => e = .returned (.int .i64 D) ∧ Below W.heap.size W w') := fun W => by
    have h := rdot_ x y z x y z W
    rw [f1] at h
    exact h
  clear e1 f1
  go_enter Tryz.func55, Tryz.ntmps55
  go_wp2_with fail
  refine wp_region_bw2 (by kernel_rfl) (by kernel_rfl) (fun hbwc => ?_)
  repeat (go_big_quiet_step ((first | (with_reducible exact bwCall (HMI.out _)) | (with_reducible exact bwCall (HD1.out _)))))
  refine wpQuiet_nil ?_
  clear hbwc
  intro w3 hb
  obtain ⟨hcw, -⟩ := bcell hb
  have hz := hb.size
  simp at hz
  have HV3 : Hid (VecAt w3 (w.heap.size + 1 + 1) (x, y, z)) := ⟨by rw [hcw _ _ (by simp)]; simp [go_sem], by rw [hcw _ _ (by simp)]; simp [go_sem], by rw [hcw _ _ (by simp)]; simp [go_sem], by omega⟩
  have HB3 : Hid (Below w.heap.size w w3) := (show Below w.heap.size w _ from (by repeat (first | exact Below.refl _ _ | assumption | refine below_drewN ?_ _ | refine Below.drew ?_ | refine Below.setCell ?_ (by first | omega | (simp; done) | (simp; omega)) _ | refine Below.alloc ?_ (by first | omega | (simp; done) | (simp; omega)) _))).trans (hb.mono (by first | omega | (simp; done) | (simp; omega)))
  obtain ⟨vb, hvb⟩ : ∃ b, w.heap.size + 1 + 1 = b := ⟨_, rfl⟩
  rw [hvb] at HV3 ⊢
  clear hb hcw hz hvb
  have y0 := HV3.out.c0
  have y1 := HV3.out.c1
  have y2 := HV3.out.c2
  have yl := HV3.out.lt
  simp only at y0 y1 y2
  go_wp2_with fail
  refine (HD2.out _).mono ?_
  rintro e w4 ⟨rfl, hb⟩
  have HB4 := Lib.hid (Below.tr HB3.out hb)
  have HV4 := Lib.hid (HV3.out.below hb)
  clear hb y0 y1 y2 yl
  have y0 := HV4.out.c0
  have y1 := HV4.out.c1
  have y2 := HV4.out.c2
  have yl := HV4.out.lt
  simp only at y0 y1 y2
  by_cases h1 : r1 ≤ 0
  · have hd1 : decide (r1 ≤ 0) = true := decide_eq_true h1
    have HH1 := Lib.hid hd1
    clear hd1
    go_wp2_with (with_reducible refine (HR1.out _).mono ?_; rintro e w' ⟨rfl, rfl⟩)
    refine (HD2.out _).mono ?_
    rintro e w5 ⟨rfl, hb⟩
    have HB5 := Lib.hid (Below.tr HB4.out hb)
    clear hb y0 y1 y2 yl
    go_wp2_with (with_reducible refine (HR2.out _).mono ?_; rintro e w' ⟨rfl, rfl⟩)
    go_ret
    exact ⟨ret_bool (by rw [HH1.out]; simp), HB5.out⟩
  · have hd1 : decide (r1 ≤ 0) = false := decide_eq_false h1
    have HH1 := Lib.hid hd1
    clear hd1
    go_wp2_with (with_reducible refine (HR1.out _).mono ?_; rintro e w' ⟨rfl, rfl⟩)
    go_ret
    exact ⟨ret_bool (by rw [HH1.out]; simp), HB4.out⟩
end Go.Proofs.YtcclfhdglhbpcaaGreatDoor
