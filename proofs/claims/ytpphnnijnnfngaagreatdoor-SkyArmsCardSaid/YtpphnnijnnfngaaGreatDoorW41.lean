/-
  A site's grasp of a direction: its numbers; the walks of grasp and of its part.
-/
import Derived.Test.YtpphnnijnnfngaaGreatDoorW40
import Derived.Test.YtpphnnijnnfngaaGreatDoorW29
namespace Go.Proofs.YtpphnnijnnfngaaGreatDoor
open Go.RowKit Al Nat9 Ring9

/-- An arm of a site. -/
structure Arm9 (p : V3) : Prop where
  a : -100 ≤ p.1 ∧ p.1 ≤ 100
  b : -100 ≤ p.2.1 ∧ p.2.1 ≤ 100
  c : -100 ≤ p.2.2 ∧ p.2.2 ≤ 100
  z : ¬ (p.1 = 0 ∧ p.2.1 = 0 ∧ p.2.2 = 0)
theorem arm_dot {p d : V3} (hp : Arm9 p) (hd : Dir9 d) : dotW p d = dotI p d ∧ -2400 ≤ dotI p d ∧ dotI p d ≤ 2400 := by
  obtain ⟨a1, a2⟩ := mulc hp.a.1 hp.a.2 (by omega) hd.a.1 hd.a.2
  obtain ⟨b1, b2⟩ := mulc hp.b.1 hp.b.2 (by omega) hd.b.1 hd.b.2
  obtain ⟨c1, c2⟩ := mulc hp.c.1 hp.c.2 (by omega) hd.c.1 hd.c.2
  unfold dotW dotI
  rw [w62 (x := p.1 * d.1) (by omega) (by omega), w62 (x := p.2.1 * d.2.1) (by omega) (by omega), w62 (x := p.2.2 * d.2.2) (by omega) (by omega), w62 (x := p.1 * d.1 + p.2.1 * d.2.1) (by omega) (by omega), w62 (by omega) (by omega)]
  exact ⟨rfl, by omega, by omega⟩
theorem sq100 {x : Int} (h1 : -100 ≤ x) (h2 : x ≤ 100) : x * x ≤ 10000 := by
  have h : x * x = (x.natAbs * x.natAbs : Nat) := by rw [Int.natCast_mul, Int.natAbs_mul_self']
  have h3 : x.natAbs * x.natAbs ≤ 100 * 100 := Nat.mul_le_mul (by omega) (by omega)
  omega
theorem arm_sq {d : V3} (hd : Arm9 d) : dotW d d = dotI d d ∧ 1 ≤ dotI d d ∧ dotI d d ≤ 30000 := by
  have a := sq100 hd.a.1 hd.a.2
  have b := sq100 hd.b.1 hd.b.2
  have c := sq100 hd.c.1 hd.c.2
  have a0 := sq_nn d.1
  have b0 := sq_nn d.2.1
  have c0 := sq_nn d.2.2
  have hz : ¬ (d.1 * d.1 = 0 ∧ d.2.1 * d.2.1 = 0 ∧ d.2.2 * d.2.2 = 0) := by
    rintro ⟨h1, h2, h3⟩
    simp only [Int.mul_eq_zero, or_self] at h1 h2 h3
    exact hd.z ⟨h1, h2, h3⟩
  unfold dotW dotI
  rw [w62 (x := d.1 * d.1) (by omega) (by omega), w62 (x := d.2.1 * d.2.1) (by omega) (by omega), w62 (x := d.2.2 * d.2.2) (by omega) (by omega), w62 (x := d.1 * d.1 + d.2.1 * d.2.1) (by omega) (by omega), w62 (by omega) (by omega)]
  exact ⟨rfl, by omega, by omega⟩
/-- The square of an arm's part in a direction. -/
def graspP (a d : V3) : Rat9 := ofZ (dotI a d * dotI a d) (dotI a a * dotI d d)
def graspF (s : Site) (d : V3) : Rat9 := (graspP s.u d).add (graspP s.v d).neg
theorem part_in {a d : V3} (ha : Arm9 a) (hd : Dir9 d) : (0 ≤ dotI a d * dotI a d ∧ dotI a d * dotI a d ≤ 5760000) ∧ 1 ≤ dotI a a * dotI d d ∧ dotI a a * dotI d d ≤ 5760000 := by
  obtain ⟨-, n1, n2⟩ := arm_dot ha hd
  obtain ⟨-, a1, a2⟩ := arm_sq ha
  obtain ⟨-, d1, d2⟩ := dd_is hd
  refine ⟨⟨sq_nn _, ?_⟩, ?_, ?_⟩
  · have h : dotI a d * dotI a d = ((dotI a d).natAbs * (dotI a d).natAbs : Nat) := by rw [Int.natCast_mul, Int.natAbs_mul_self']
    have h3 : (dotI a d).natAbs * (dotI a d).natAbs ≤ 2400 * 2400 := Nat.mul_le_mul (by omega) (by omega)
    omega
  · have := Int.mul_le_mul a1 d1 (by omega) (by omega)
    omega
  · have := Int.mul_le_mul a2 d2 (by omega) (by omega)
    omega
theorem graspP_can {a d : V3} (ha : Arm9 a) (hd : Dir9 d) : Can (graspP a d) ∧ RLn 1 (graspP a d) := by
  obtain ⟨⟨n0, n1⟩, d0, d1⟩ := part_in ha hd
  have l : ∀ z : Int, 0 ≤ z → z ≤ 5760000 → (dg z.natAbs).length ≤ 1 := fun z h0 h1 => dg_short (by omega)
  exact ⟨can_red _ (by omega), RLn.red (Nat.le_refl _) _ (l _ n0 n1) (l _ (by omega) d1) (by omega)⟩
theorem graspP_get {a d : V3} (ha : Arm9 a) (hd : Dir9 d) : GetG (bT (txR (graspP a d))) (graspP a d) := by
  obtain ⟨h1, h2⟩ := graspP_can ha hd
  exact getG_of h1 (big_short (Nat.le_trans h2.n (by omega)) (Nat.le_trans h2.d (by omega)))
theorem graspF_can {s : Site} {d : V3} (hu : Arm9 s.u) (hv : Arm9 s.v) (hd : Dir9 d) : Can (graspF s d) ∧ RLn 3 (graspF s d) := by
  obtain ⟨h1, h2⟩ := graspP_can hu hd
  obtain ⟨g1, g2⟩ := graspP_can hv hd
  exact ⟨Can.add h1.d0 g1.neg.d0, h2.add g2.neg (Nat.le_refl _)⟩
theorem graspF_big {s : Site} {d : V3} (hu : Arm9 s.u) (hv : Arm9 s.v) (hd : Dir9 d) : bigB (graspF s d) = false := by
  obtain ⟨h1, h2⟩ := graspF_can hu hv hd
  exact big_short (Nat.le_trans h2.n (by omega)) (Nat.le_trans h2.d (by omega))
theorem graspF_get {s : Site} {d : V3} (hu : Arm9 s.u) (hv : Arm9 s.v) (hd : Dir9 d) : GetG (bT (txR (graspF s d))) (graspF s d) := getG_of (graspF_can hu hv hd).1 (graspF_big hu hv hd)
set_option maxRecDepth 100000 in
set_option maxHeartbeats 8000000 in
theorem part_ (a d : V3) (db : Nat) (w : World) (ha : Arm9 a) (hd : Dir9 d) (hT : Tab w) (h0 : w.cell? ⟨db, 0, none⟩ = some (.int .i64 d.1)) (h1 : w.cell? ⟨db, 1, none⟩ = some (.int .i64 d.2.1)) (h2 : w.cell? ⟨db, 2, none⟩ = some (.int .i64 d.2.2)) :
    Calls Tryz.prog 26 #[v3 a, .pointer (some ⟨db, 0, none⟩)] w fun e w' => e = .returned (.string (bT (txR (graspP a d)))) ∧ Below w.heap.size w w' := by
  obtain ⟨hn, n1, n2⟩ := arm_dot ha hd
  obtain ⟨hq, q1, q2⟩ := arm_sq ha
  obtain ⟨hp, p1, p2⟩ := dd_is hd
  obtain ⟨⟨e1, e2⟩, e3, e4⟩ := part_in ha hd
  have hdl := cell_ltU h0
  obtain ⟨R, hR⟩ : ∃ R, bT (txR (graspP a d)) = R := ⟨_, rfl⟩
  unfold graspP at hR
  rw [show bT (txR (graspP a d)) = R from hR]
  obtain ⟨a1, a2, a3⟩ := a
  obtain ⟨d1, d2, d3⟩ := d
  obtain ⟨n, hnn⟩ : ∃ n, dotI (a1, a2, a3) (d1, d2, d3) = n := ⟨_, rfl⟩
  obtain ⟨q, hqq⟩ : ∃ n, dotI (a1, a2, a3) (a1, a2, a3) = n := ⟨_, rfl⟩
  obtain ⟨p, hpp⟩ : ∃ n, dotI (d1, d2, d3) (d1, d2, d3) = n := ⟨_, rfl⟩
  rw [hnn, hqq, hpp] at hR
  rw [hnn] at hn n1 n2 e1 e2
  rw [hqq] at hq q1 q2
  rw [hpp] at hp p1 p2
  rw [hqq, hpp] at e3 e4
  obtain ⟨nn, hnn2⟩ : ∃ z, n * n = z := ⟨_, rfl⟩
  obtain ⟨qp, hqp⟩ : ∃ z, q * p = z := ⟨_, rfl⟩
  rw [hnn2, hqp] at hR
  rw [hnn2] at e1 e2
  rw [hqp] at e3 e4
  have w1' : IntKind.i64.wrap nn = nn := IntWalk.i64_in _ (by omega)
  have w2' : IntKind.i64.wrap qp = qp := IntWalk.i64_in _ (by omega)
  have HD1 : Hid (∀ W, Calls Tryz.prog 27 #[.agg #[.int .i64 a1, .int .i64 a2, .int .i64 a3], .agg #[.int .i64 d1, .int .i64 d2, .int .i64 d3]] W fun e w' => e = .returned (.int .i64 n) ∧ Below W.heap.size W w') := fun W => hn ▸ dotc a1 a2 a3 d1 d2 d3 W
  have HD2 : Hid (∀ W, Calls Tryz.prog 27 #[.agg #[.int .i64 a1, .int .i64 a2, .int .i64 a3], .agg #[.int .i64 a1, .int .i64 a2, .int .i64 a3]] W fun e w' => e = .returned (.int .i64 q) ∧ Below W.heap.size W w') := fun W => hq ▸ dotc a1 a2 a3 a1 a2 a3 W
  have HD3 : Hid (∀ W, Calls Tryz.prog 27 #[.agg #[.int .i64 d1, .int .i64 d2, .int .i64 d3], .agg #[.int .i64 d1, .int .i64 d2, .int .i64 d3]] W fun e w' => e = .returned (.int .i64 p) ∧ Below W.heap.size W w') := fun W => hp ▸ dotc d1 d2 d3 d1 d2 d3 W
  have HOF : Hid (∀ W, Below w.heap.size w W → Calls Tryz.prog 28 #[.int .i64 nn, .int .i64 qp] W fun e w' => e = .returned (.tuple #[.string R, .int .i64 0]) ∧ Below W.heap.size W w') := fun W hW => by
    have h := OfG_ nn qp (by omega) (by omega) (by omega) (by omega) (by omega) W (hT.below hW (Nat.le_refl _))
    rw [hR] at h
    exact h
  clear hn hq hp hnn hqq hpp hR hT ha hd n1 n2 q1 q2 p1 p2
  simp only at h0 h1 h2
  go_enter Tryz.func26, Tryz.ntmps26
  go_upto_region 1 with fail
  obtain ⟨X, hX⟩ : ∃ X, w.alloc (.cells #[.int .i64 a1, .int .i64 a2, .int .i64 a3] 40) = X := ⟨_, rfl⟩
  have HX : Hid (Below w.heap.size w X) := by show Below _ _ _; rw [← hX]; exact (Below.refl _ _).alloc (Nat.le_refl _) _
  have x0 : X.cell? ⟨w.heap.size, 0, none⟩ = some (.int .i64 a1) := by rw [← hX]; simp [go_sem]
  have x1 : X.cell? ⟨w.heap.size, 1, none⟩ = some (.int .i64 a2) := by rw [← hX]; simp [go_sem]
  have x2 : X.cell? ⟨w.heap.size, 2, none⟩ = some (.int .i64 a3) := by rw [← hX]; simp [go_sem]
  have y0 := (HX.out.cell (p := ⟨db, 0, none⟩) hdl).trans h0
  have y1 := (HX.out.cell (p := ⟨db, 1, none⟩) hdl).trans h1
  have y2 := (HX.out.cell (p := ⟨db, 2, none⟩) hdl).trans h2
  have hXs : X.heap.size = w.heap.size + 1 := by rw [← hX]; simp
  have g0 : w.heap.size < X.heap.size := by omega
  have g1 : db < X.heap.size := by omega
  have hXl : w.heap.size ≤ X.heap.size := by omega
  clear hXs h0 h1 h2
  go_wp2_with fail
  refine (HD1.out _).mono ?_
  rintro e w2 ⟨rfl, hb⟩
  have HB2 : Hid (Below X.heap.size X w2) := hb
  have hs2 := hb.size
  have x0' := (hb.cell (p := ⟨w.heap.size, 0, none⟩) g0).trans x0
  have x1' := (hb.cell (p := ⟨w.heap.size, 1, none⟩) g0).trans x1
  have x2' := (hb.cell (p := ⟨w.heap.size, 2, none⟩) g0).trans x2
  have y0' := (hb.cell (p := ⟨db, 0, none⟩) g1).trans y0
  have y1' := (hb.cell (p := ⟨db, 1, none⟩) g1).trans y1
  have y2' := (hb.cell (p := ⟨db, 2, none⟩) g1).trans y2
  have g0' : w.heap.size < w2.heap.size := by omega
  have g1' : db < w2.heap.size := by omega
  clear hb x0 x1 x2 y0 y1 y2
  go_wp2_with fail
  go_region_held3 (fun w' => ∀ k o, k < w2.heap.size → w'.cell? ⟨k, o, none⟩ = w2.cell? ⟨k, o, none⟩) (first | exact kN | exact fun k o h => rfl)
    (first
      | (go_at_call 28; refine (HOF.out _ (HX.out.trans ((HB2.out.trans ((HB4.out.trans ((show Below w4.heap.size w4 _ from (by (repeat (first | exact Below.refl _ _ | assumption | refine below_drewN ?_ _ | refine Below.drew ?_ | refine Below.setCell ?_ (by first | omega | (simp; done) | (simp; omega)) _ | refine Below.alloc ?_ (by first | omega | (simp; done) | (simp; omega)) _)))).mono hs4)).mono hs2)).mono hXl))).mono ?_; intro e w5 hnt; obtain ⟨he, hbn⟩ := hnt; subst he; have HB5 : Hid (Below w2.heap.size w2 w5) := HB4.out.trans (((show Below w4.heap.size w4 _ from (by (repeat (first | exact Below.refl _ _ | assumption | refine below_drewN ?_ _ | refine Below.drew ?_ | refine Below.setCell ?_ (by first | omega | (simp; done) | (simp; omega)) _ | refine Below.alloc ?_ (by first | omega | (simp; done) | (simp; omega)) _)))).trans (hbn.mono (by first | omega | (simp; done) | (simp; omega)))).mono hs4); have kN := (fun k o (h : k < w2.heap.size) => (HB5.out).cell (p := ⟨k, o, none⟩) h); clear hbn)
      | (go_at_call 27; (with_reducible show Calls _ _ #[Value.agg #[Value.int .i64 d1, Value.int .i64 d2, Value.int .i64 d3], Value.agg #[Value.int .i64 d1, Value.int .i64 d2, Value.int .i64 d3]] _ _); refine (HD3.out _).mono ?_; intro e w4 hnt; obtain ⟨he, hbn⟩ := hnt; subst he; have HB4 : Hid (Below w2.heap.size w2 w4) := HB3.out.trans (((show Below w3.heap.size w3 _ from (by (repeat (first | exact Below.refl _ _ | assumption | refine below_drewN ?_ _ | refine Below.drew ?_ | refine Below.setCell ?_ (by first | omega | (simp; done) | (simp; omega)) _ | refine Below.alloc ?_ (by first | omega | (simp; done) | (simp; omega)) _)))).trans (hbn.mono (by first | omega | (simp; done) | (simp; omega)))).mono hs3); have hs4 := HB4.out.size; have kN := (fun k o (h : k < w2.heap.size) => (HB4.out).cell (p := ⟨k, o, none⟩) h); clear hbn)
      | (go_at_call 27; (with_reducible show Calls _ _ #[Value.agg #[Value.int .i64 a1, Value.int .i64 a2, Value.int .i64 a3], Value.agg #[Value.int .i64 a1, Value.int .i64 a2, Value.int .i64 a3]] _ _); refine (HD2.out _).mono ?_; intro e w3 hnt; obtain ⟨he, hbn⟩ := hnt; subst he; have HB3 : Hid (Below w2.heap.size w2 w3) := (show Below w2.heap.size w2 _ from (by (repeat (first | exact Below.refl _ _ | assumption | refine below_drewN ?_ _ | refine Below.drew ?_ | refine Below.setCell ?_ (by first | omega | (simp; done) | (simp; omega)) _ | refine Below.alloc ?_ (by first | omega | (simp; done) | (simp; omega)) _)))).trans (hbn.mono (by first | omega | (simp; done) | (simp; omega))); have hs3 := HB3.out.size; have kN := (fun k o (h : k < w2.heap.size) => (HB3.out).cell (p := ⟨k, o, none⟩) h); clear hbn))
  go_wp2_with fail
  go_ret
  exact ⟨rfl, HX.out.trans ((HB2.out.trans (HB5.out.mono hs2)).mono hXl)⟩
set_option maxRecDepth 100000 in
set_option maxHeartbeats 8000000 in
theorem grasp_ (s : Site) (d : V3) (w : World) (hu : Arm9 s.u) (hv : Arm9 s.v) (hd : Dir9 d) (hM : RdN w) :
    Calls Tryz.prog 9 #[s.val, v3 d] w fun e w' => e = .returned (.string (bT (txR (graspF s d)))) ∧ Below w.heap.size w w' := by
  obtain ⟨R, hR⟩ : ∃ R, bT (txR (graspF s d)) = R := ⟨_, rfl⟩
  rw [hR]
  obtain ⟨RU, hRU⟩ : ∃ R, bT (txR (graspP s.u d)) = R := ⟨_, rfl⟩
  obtain ⟨RV, hRV⟩ : ∃ R, bT (txR (graspP s.v d)) = R := ⟨_, rfl⟩
  have HP1 : Hid (∀ W db, Below w.heap.size w W → W.cell? ⟨db, 0, none⟩ = some (.int .i64 d.1) → W.cell? ⟨db, 1, none⟩ = some (.int .i64 d.2.1) → W.cell? ⟨db, 2, none⟩ = some (.int .i64 d.2.2) → Calls Tryz.prog 26 #[v3 s.u, .pointer (some ⟨db, 0, none⟩)] W fun e w' => e = .returned (.string RU) ∧ Below W.heap.size W w') := fun W db hW h0 h1 h2 => hRU ▸ part_ s.u d db W hu hd (hM.below hW (Nat.le_refl _)).t h0 h1 h2
  have HP2 : Hid (∀ W db, Below w.heap.size w W → W.cell? ⟨db, 0, none⟩ = some (.int .i64 d.1) → W.cell? ⟨db, 1, none⟩ = some (.int .i64 d.2.1) → W.cell? ⟨db, 2, none⟩ = some (.int .i64 d.2.2) → Calls Tryz.prog 26 #[v3 s.v, .pointer (some ⟨db, 0, none⟩)] W fun e w' => e = .returned (.string RV) ∧ Below W.heap.size W w') := fun W db hW h0 h1 h2 => hRV ▸ part_ s.v d db W hv hd (hM.below hW (Nat.le_refl _)).t h0 h1 h2
  have HSB : Hid (∀ W, Below w.heap.size w W → Calls Tryz.prog 29 #[.string RU, .string RV] W fun e w' => e = .returned (.tuple #[.string R, .int .i64 0]) ∧ Below W.heap.size W w') := fun W hW => by
    have h := SubR_ RU RV (graspP s.u d) (graspP s.v d) (graspF s d) (by rw [← hRU]; exact graspP_get hu hd) (by rw [← hRV]; exact graspP_get hv hd) rfl (graspF_big hu hv hd) W (hM.below hW (Nat.le_refl _))
    rw [hR] at h
    exact h
  clear hR hRU hRV hu hv hd hM
  obtain ⟨⟨p1, p2, p3⟩, ⟨u1, u2, u3⟩, ⟨v1, v2, v3'⟩⟩ := s
  obtain ⟨d1, d2, d3⟩ := d
  simp only [Site.val, v3] at HP1 HP2 ⊢
  go_enter Tryz.func9, Tryz.ntmps9
  go_upto_region 1 with fail
  obtain ⟨X, hX⟩ : ∃ X, ((w.alloc (.cells #[.int .i64 p1, .int .i64 p2, .int .i64 p3, .int .i64 u1, .int .i64 u2, .int .i64 u3, .int .i64 v1, .int .i64 v2, .int .i64 v3'] 44)).alloc (.cells #[.int .i64 d1, .int .i64 d2, .int .i64 d3] 40)) = X := ⟨_, rfl⟩
  have HX : Hid (Below w.heap.size w X) := by show Below _ _ _; rw [← hX]; exact (by repeat (first | exact Below.refl _ _ | assumption | refine below_drewN ?_ _ | refine Below.drew ?_ | refine Below.setCell ?_ (by first | omega | (simp; done) | (simp; omega)) _ | refine Below.alloc ?_ (by first | omega | (simp; done) | (simp; omega)) _))
  have x3 : X.cell? ⟨w.heap.size, 3, none⟩ = some (.int .i64 u1) := by rw [← hX]; simp [go_sem]
  have x4 : X.cell? ⟨w.heap.size, 4, none⟩ = some (.int .i64 u2) := by rw [← hX]; simp [go_sem]
  have x5 : X.cell? ⟨w.heap.size, 5, none⟩ = some (.int .i64 u3) := by rw [← hX]; simp [go_sem]
  have x6 : X.cell? ⟨w.heap.size, 6, none⟩ = some (.int .i64 v1) := by rw [← hX]; simp [go_sem]
  have x7 : X.cell? ⟨w.heap.size, 7, none⟩ = some (.int .i64 v2) := by rw [← hX]; simp [go_sem]
  have x8 : X.cell? ⟨w.heap.size, 8, none⟩ = some (.int .i64 v3') := by rw [← hX]; simp [go_sem]
  have y0 : X.cell? ⟨w.heap.size + 1, 0, none⟩ = some (.int .i64 d1) := by rw [← hX]; simp [go_sem]
  have y1 : X.cell? ⟨w.heap.size + 1, 1, none⟩ = some (.int .i64 d2) := by rw [← hX]; simp [go_sem]
  have y2 : X.cell? ⟨w.heap.size + 1, 2, none⟩ = some (.int .i64 d3) := by rw [← hX]; simp [go_sem]
  have hXs : X.heap.size = w.heap.size + 1 + 1 := by rw [← hX]; simp
  have g0 : w.heap.size < X.heap.size := by omega
  have g1 : w.heap.size + 1 < X.heap.size := by omega
  have hXl : w.heap.size ≤ X.heap.size := by omega
  have HD : Hid (∀ W, Below X.heap.size X W → W.cell? ⟨w.heap.size + 1, 0, none⟩ = some (.int .i64 d1) ∧ W.cell? ⟨w.heap.size + 1, 1, none⟩ = some (.int .i64 d2) ∧ W.cell? ⟨w.heap.size + 1, 2, none⟩ = some (.int .i64 d3)) := fun W hW => ⟨(hW.cell (p := ⟨w.heap.size + 1, 0, none⟩) g1).trans y0, (hW.cell (p := ⟨w.heap.size + 1, 1, none⟩) g1).trans y1, (hW.cell (p := ⟨w.heap.size + 1, 2, none⟩) g1).trans y2⟩
  rw [hX]
  clear hX hXs y0 y1 y2
  go_wp2_with fail
  go_region_held3 (fun w' => ∀ k o, k < X.heap.size → w'.cell? ⟨k, o, none⟩ = X.cell? ⟨k, o, none⟩) (first | exact kN | exact fun k o h => rfl)
    (first
      | (go_at_call 29; refine (HSB.out _ (HX.out.trans ((HB4.out.trans ((show Below w4.heap.size w4 _ from (by (repeat (first | exact Below.refl _ _ | assumption | refine below_drewN ?_ _ | refine Below.drew ?_ | refine Below.setCell ?_ (by first | omega | (simp; done) | (simp; omega)) _ | refine Below.alloc ?_ (by first | omega | (simp; done) | (simp; omega)) _)))).mono hs4)).mono hXl))).mono ?_; intro e w5 hnt; obtain ⟨he, hbn⟩ := hnt; subst he; have HB5 : Hid (Below X.heap.size X w5) := HB4.out.trans (((show Below w4.heap.size w4 _ from (by (repeat (first | exact Below.refl _ _ | assumption | refine below_drewN ?_ _ | refine Below.drew ?_ | refine Below.setCell ?_ (by first | omega | (simp; done) | (simp; omega)) _ | refine Below.alloc ?_ (by first | omega | (simp; done) | (simp; omega)) _)))).trans (hbn.mono (by first | omega | (simp; done) | (simp; omega)))).mono hs4); have kN := (fun k o (h : k < X.heap.size) => (HB5.out).cell (p := ⟨k, o, none⟩) h); clear hbn)
      | (go_at_call 26; (with_reducible show Calls _ _ #[Value.agg #[Value.int .i64 v1, Value.int .i64 v2, Value.int .i64 v3'], Value.pointer _] _ _); refine (HP2.out _ _ (HX.out.trans ((HB3.out.trans ((show Below w3.heap.size w3 _ from (by (repeat (first | exact Below.refl _ _ | assumption | refine below_drewN ?_ _ | refine Below.drew ?_ | refine Below.setCell ?_ (by first | omega | (simp; done) | (simp; omega)) _ | refine Below.alloc ?_ (by first | omega | (simp; done) | (simp; omega)) _)))).mono hs3)).mono hXl)) (HD.out _ (HB3.out.trans ((show Below w3.heap.size w3 _ from (by (repeat (first | exact Below.refl _ _ | assumption | refine below_drewN ?_ _ | refine Below.drew ?_ | refine Below.setCell ?_ (by first | omega | (simp; done) | (simp; omega)) _ | refine Below.alloc ?_ (by first | omega | (simp; done) | (simp; omega)) _)))).mono hs3))).1 (HD.out _ (HB3.out.trans ((show Below w3.heap.size w3 _ from (by (repeat (first | exact Below.refl _ _ | assumption | refine below_drewN ?_ _ | refine Below.drew ?_ | refine Below.setCell ?_ (by first | omega | (simp; done) | (simp; omega)) _ | refine Below.alloc ?_ (by first | omega | (simp; done) | (simp; omega)) _)))).mono hs3))).2.1 (HD.out _ (HB3.out.trans ((show Below w3.heap.size w3 _ from (by (repeat (first | exact Below.refl _ _ | assumption | refine below_drewN ?_ _ | refine Below.drew ?_ | refine Below.setCell ?_ (by first | omega | (simp; done) | (simp; omega)) _ | refine Below.alloc ?_ (by first | omega | (simp; done) | (simp; omega)) _)))).mono hs3))).2.2).mono ?_; intro e w4 hnt; obtain ⟨he, hbn⟩ := hnt; subst he; have HB4 : Hid (Below X.heap.size X w4) := HB3.out.trans (((show Below w3.heap.size w3 _ from (by (repeat (first | exact Below.refl _ _ | assumption | refine below_drewN ?_ _ | refine Below.drew ?_ | refine Below.setCell ?_ (by first | omega | (simp; done) | (simp; omega)) _ | refine Below.alloc ?_ (by first | omega | (simp; done) | (simp; omega)) _)))).trans (hbn.mono (by first | omega | (simp; done) | (simp; omega)))).mono hs3); have hs4 := HB4.out.size; have kN := (fun k o (h : k < X.heap.size) => (HB4.out).cell (p := ⟨k, o, none⟩) h); clear hbn)
      | (go_at_call 26; (with_reducible show Calls _ _ #[Value.agg #[Value.int .i64 u1, Value.int .i64 u2, Value.int .i64 u3], Value.pointer _] _ _); refine (HP1.out _ _ (HX.out.trans ((show Below X.heap.size X _ from (by (repeat (first | exact Below.refl _ _ | assumption | refine below_drewN ?_ _ | refine Below.drew ?_ | refine Below.setCell ?_ (by first | omega | (simp; done) | (simp; omega)) _ | refine Below.alloc ?_ (by first | omega | (simp; done) | (simp; omega)) _)))).mono hXl)) (HD.out _ (show Below X.heap.size X _ from (by (repeat (first | exact Below.refl _ _ | assumption | refine below_drewN ?_ _ | refine Below.drew ?_ | refine Below.setCell ?_ (by first | omega | (simp; done) | (simp; omega)) _ | refine Below.alloc ?_ (by first | omega | (simp; done) | (simp; omega)) _))))).1 (HD.out _ (show Below X.heap.size X _ from (by (repeat (first | exact Below.refl _ _ | assumption | refine below_drewN ?_ _ | refine Below.drew ?_ | refine Below.setCell ?_ (by first | omega | (simp; done) | (simp; omega)) _ | refine Below.alloc ?_ (by first | omega | (simp; done) | (simp; omega)) _))))).2.1 (HD.out _ (show Below X.heap.size X _ from (by (repeat (first | exact Below.refl _ _ | assumption | refine below_drewN ?_ _ | refine Below.drew ?_ | refine Below.setCell ?_ (by first | omega | (simp; done) | (simp; omega)) _ | refine Below.alloc ?_ (by first | omega | (simp; done) | (simp; omega)) _))))).2.2).mono ?_; intro e w3 hnt; obtain ⟨he, hbn⟩ := hnt; subst he; have HB3 : Hid (Below X.heap.size X w3) := (show Below X.heap.size X _ from (by (repeat (first | exact Below.refl _ _ | assumption | refine below_drewN ?_ _ | refine Below.drew ?_ | refine Below.setCell ?_ (by first | omega | (simp; done) | (simp; omega)) _ | refine Below.alloc ?_ (by first | omega | (simp; done) | (simp; omega)) _)))).trans (hbn.mono (by first | omega | (simp; done) | (simp; omega))); have hs3 := HB3.out.size; have kN := (fun k o (h : k < X.heap.size) => (HB3.out).cell (p := ⟨k, o, none⟩) h); clear hbn))
  go_wp2_with fail
  go_ret
  exact ⟨rfl, HX.out.trans (HB5.out.mono hXl)⟩
end Go.Proofs.YtpphnnijnnfngaaGreatDoor

/-
  Grasp, where nothing is wrong, and its error ways.
-/
namespace Go.Proofs.YtpphnnijnnfngaaGreatDoor
open Go.RowKit Al Nat9 Ring9

theorem nzB_get {v : V3} (h : nzB v = true) : ¬ (v.1 = 0 ∧ v.2.1 = 0 ∧ v.2.2 = 0) := by
  rintro ⟨h1, h2, h3⟩
  obtain ⟨a, b, c⟩ := v
  simp only at h1 h2 h3
  subst h1 h2 h3
  exact absurd h (by decide)
theorem net_arms {L : List NSi} {n : Int} (hv : netG L n = 0) {s : Site} (hs : s ∈ sites L) : Arm9 s.u ∧ Arm9 s.v := by
  have he : netE L = 0 := by
    rcases netE_cases L with h | h
    · exact h
    · unfold netG at hv; rw [h] at hv; cases hv
  have hnb : netB L = true := by
    unfold netE at he
    cases hb : netB L with
    | true => rfl
    | false => rw [hb] at he; cases he
  unfold netB at hnb
  rw [Bool.and_eq_true] at hnb
  obtain ⟨x, hx, rfl⟩ := List.mem_map.1 hs
  have h := List.all_eq_true.1 hnb.2 x hx
  unfold siteOkB at h
  simp only [Bool.and_eq_true] at h
  obtain ⟨-, h1, h2, h3, h4⟩ := h
  obtain ⟨a, b, c⟩ := mostB_get h1
  obtain ⟨a', b', c'⟩ := mostB_get h2
  exact ⟨⟨a, b, c, nzB_get h3⟩, ⟨a', b', c', nzB_get h4⟩⟩
theorem infoNum : (Tryz.prog.info? 33).map (fun i => (i.zero, i.size, i.bytes)) = some (some (.string ⟨#[]⟩), 1, 16) := by kernel_rfl
/-- The grasps of all sites, as texts. -/
def grL (S : List Site) (d : V3) : List ByteArray := S.map fun s => bT (txR (graspF s d))
/-- An error and texts are handed back. -/
def GraspOut (v : Int) (l : List ByteArray) (w : World) (e : Ending) (w' : World) : Prop := ∃ s, e = .returned (.tuple #[s, .int .i64 v]) ∧ w'.ownsRow w.heap.size 33 1 s l.length (strs l) ∧ Below w.heap.size w w'
def GrRel (R : List ByteArray) (m : Nat) (wa : World) (o i : Value) (wr : World) : Prop :=
  ∃ (k : Nat) (D : Option Addr) (dc : Nat), k ≤ m ∧ o = .slice D k dc ∧ i = .int .i64 (k : Int) ∧ Hid (wr.ownsRow wa.heap.size 33 1 (.slice D k dc) k (strs (R.take k))) ∧ Hid (Below wa.heap.size wa wr)
set_option maxRecDepth 100000 in
set_option maxHeartbeats 8000000 in
theorem Grasp_ok (L : List NSi) (A : Option Addr) (c : Nat) (n cl : Int) (w : World) (hv : netG L n = 0) (hc : thereB n cl = true) (hL : Sl w w.heap.size 10 A L.length c (nsCells L)) (hm : ∀ x ∈ L, x.nm.size ≤ maxLen) (hM : RdN w) :
    Calls Tryz.prog 4 #[.slice A L.length c, .int .i64 n, .int .i64 cl] w (GraspOut 0 (grL (sites L) (dirV n cl)) w) := by
  obtain ⟨i0, hi, hz0, hz1, hz2⟩ := info_parts infoNum
  have HCE := celled_ok L A c n cl w hv hc hL hm
  obtain ⟨hl2, hl6, h1, h8⟩ := netG_ok hv
  have harm := fun s (hs : s ∈ sites L) => net_arms hv hs
  have hdir := dir9 hc
  have hsl : (sites L).length = L.length := by unfold sites; exact List.length_map _
  obtain ⟨S, hS⟩ : ∃ S, sites L = S := ⟨_, rfl⟩
  obtain ⟨d, hd⟩ : ∃ d, dirV n cl = d := ⟨_, rfl⟩
  obtain ⟨R, hR⟩ : ∃ R, grL S d = R := ⟨_, rfl⟩
  have hRl : R.length = L.length := by rw [← hR]; unfold grL; rw [List.length_map, ← hS, hsl]
  have HRK : Hid (∀ k (h : k < S.length), R.take (k + 1) = R.take k ++ [bT (txR (graspF S[k] d))]) := fun k h => by
    rw [← hR]
    unfold grL
    rw [List.take_succ_eq_append_getElem (by rw [List.length_map]; exact h)]
    simp
  have HRL := Lib.hid hRl
  rw [hS, hd, hR]
  have e : CelT L n cl w = fun e w' => ∃ B cc, e = .returned (.tuple #[.slice B L.length cc, v3 d, .int .i64 0]) ∧ w'.ownsRow w.heap.size 44 9 (.slice B L.length cc) L.length (siCells S) ∧ Below w.heap.size w w' := by funext e w'; unfold CelT; rw [hd, hS]
  rw [e] at HCE
  rw [hS] at hsl harm
  rw [hd] at hdir
  have HSL := Lib.hid hsl
  have HM := Lib.hid hM
  have HG : Hid (∀ W s, RdN W → s ∈ S → Calls Tryz.prog 9 #[s.val, v3 d] W fun e w' => e = .returned (.string (bT (txR (graspF s d)))) ∧ Below W.heap.size W w') := fun W s hW hs => grasp_ s d W (harm s hs).1 (harm s hs).2 hdir hW
  obtain ⟨x, y, z⟩ := d
  simp only [v3] at HG
  clear e hd hS hv hc hL hm hR hsl hRl harm hdir hM
  go_enter Tryz.func4, Tryz.ntmps4
  go_wp2_with fail
  refine HCE.mono ?_
  rintro e w1 ⟨B, cc, rfl, hO, hb⟩
  have HB1 := Lib.hid hb
  have HO1 := Lib.hid hO
  have hz1' := hb.size
  clear hb hO HCE
  go_wp2_with fail
  have HVX : Hid (VecAt (w1.alloc (.cells #[.int .i64 x, .int .i64 y, .int .i64 z] 40)) w1.heap.size (x, y, z)) := ⟨by simp [go_sem], by simp [go_sem], by simp [go_sem], by simp⟩
  have HBA : Hid (Below w.heap.size w (w1.alloc (.cells #[.int .i64 x, .int .i64 y, .int .i64 z] 40))) := HB1.out.alloc hz1' _
  have HSA := Lib.hid (((Sl.of_own HO1.out).alloc (Nat.le_refl _) (.cells #[.int .i64 x, .int .i64 y, .int .i64 z] 40)).more (show _ ≤ (w1.alloc (.cells #[.int .i64 x, .int .i64 y, .int .i64 z] 40)).heap.size by simp))
  have hwz : (w1.alloc (.cells #[.int .i64 x, .int .i64 y, .int .i64 z] 40)).heap.size = w1.heap.size + 1 := by simp
  obtain ⟨wa, hwa⟩ : ∃ wa, w1.alloc (.cells #[.int .i64 x, .int .i64 y, .int .i64 z] 40) = wa := ⟨_, rfl⟩
  rw [hwa] at HVX HBA HSA hwz ⊢
  have hvl : w1.heap.size < wa.heap.size := by omega
  have hwl : w.heap.size ≤ wa.heap.size := by omega
  have HMA : Hid (RdN wa) := HM.out.below HBA.out (Nat.le_refl _)
  clear hwa hwz
  obtain ⟨vb, hvb⟩ : ∃ b, w1.heap.size = b := ⟨_, rfl⟩
  rw [hvb] at HVX hvl ⊢
  clear hvb hz1'
  go_loopw [11, 27] (fun o i wr => GrRel R L.length wa o i wr) (fun _ i _ => L.length - (intOf i).toNat)
  case atStart => exact ⟨0, none, 0, Nat.zero_le _, rfl, rfl, Lib.hid (World.ownsRow_nil _ _ _ _), Lib.hid (Below.refl _ _)⟩
  case round =>
    obtain ⟨k, D, dc, hk, rfl, rfl, HO, HB⟩ := hrel
    have hsz := HB.out.size
    by_cases hlt : k < L.length
    · have hks : k < S.length := by have := HSL.out; omega
      obtain ⟨sb, so, rfl, hsb, m0, m1, m2, m3, m4, m5, m6, m7, m8⟩ := (HSA.out.below HB.out).si_at hks
      have HRS := Lib.hid (HRK.out k hks)
      have HGS := Lib.hid (fun W (hW : RdN W) => HG.out W S[k] hW (List.getElem_mem hks))
      obtain ⟨s, hs⟩ : ∃ s, S[k] = s := ⟨_, rfl⟩
      rw [hs] at m0 m1 m2 m3 m4 m5 m6 m7 m8 HRS HGS
      have hlt' : (k : Int) < (L.length : Int) := by omega
      obtain ⟨⟨p1, p2, p3⟩, ⟨q1, q2, q3⟩, ⟨r1, r2, r3⟩⟩ := s
      simp only [Site.val] at HGS
      obtain ⟨T, hT⟩ : ∃ T, bT (txR (graspF ⟨(p1, p2, p3), (q1, q2, q3), (r1, r2, r3)⟩ (x, y, z))) = T := ⟨_, rfl⟩
      rw [hT] at HRS HGS
      have hsb2 : sb < wr.heap.size := by omega
      have VX := HVX.out.below HB.out
      have v0 := VX.c0
      have v1 := VX.c1
      have v2 := VX.c2
      have v3' := VX.lt
      simp only at v0 v1 v2
      clear hs hT VX
      go_wp2_with fail
      refine (HGS.out _ (HMA.out.below (show Below wa.heap.size wa _ from (HB.out.alloc hsz _)) (Nat.le_refl _))).mono ?_
      rintro e w3 ⟨rfl, hb⟩
      have HB3 : Hid (Below wr.heap.size wr w3) := (show Below wr.heap.size wr _ from (Below.refl _ _).alloc (Nat.le_refl _) _).trans (hb.mono (by simp))
      have HO3 := Lib.hid (own_below HO.out (Nat.le_refl _) HB3.out)
      have HW3 := Lib.hid (HB.out.trans (HB3.out.mono hsz))
      have hz3 := HW3.out.size
      clear hb m0 m1 m2 m3 m4 m5 m6 m7 m8 v0 v1 v2
      go_wp2_with (at_builtin; go_must (refine wpList_append_lies _ rfl _ _ 25 rfl wa.heap.size 33 i0 (.string ⟨#[]⟩) 1 16 Tryz.underlying25 hi hz0 hz1 hz2 rfl (by decide) (.slice D k dc) k _ rfl (own_below HO3.out (Nat.le_refl _) ((Below.refl _ _).alloc (Nat.le_refl _) _)) _ 1 1 [.string T] rfl rfl (World.news_of_block (heap_alloc_new w3 _)) (by intro u hu; rw [List.mem_singleton.1 hu]; rfl) (by decide) (by unfold maxLen; omega) (by omega) (by simp; omega) _ rfl ?_); intro g cap w6 hown6 hg6 hat6 hlt6; have z6 := hg6.size; (try simp at z6))
      go_roundw
      case rel =>
        refine ⟨k + 1, some ⟨g, 0, none⟩, cap, by omega, rfl, by go_num, Lib.hid ?_, Lib.hid ((HW3.out.alloc hz3 _).grown hg6 (by simp; omega) (fun g h => (own_lt HO3.out h).1))⟩
        rw [HRS.out]
        have e : strs (R.take k ++ [T]) = strs (R.take k) ++ [.string T] := by simp [strs]
        rw [e]
        exact hown6
      case measure => simp [intOf]; omega
    · obtain rfl : k = L.length := by omega
      go_wp2_with fail
      go_ret2
      refine ⟨_, rfl, ?_, HBA.out.trans (HB.out.mono hwl)⟩
      have h := own_le HO.out hwl
      rw [List.take_of_length_le (by have := HRL.out; omega)] at h
      rw [HRL.out]
      exact h
set_option maxRecDepth 100000 in
theorem Grasp_e (L : List NSi) (A : Option Addr) (c : Nat) (n cl v : Int) (w : World) (hv : celG L n cl = v) (h0 : ¬ v = 0) (hL : Sl w w.heap.size 10 A L.length c (nsCells L)) (hm : ∀ x ∈ L, x.nm.size ≤ maxLen) :
    Calls Tryz.prog 4 #[.slice A L.length c, .int .i64 n, .int .i64 cl] w (GraspOut v [] w) := by
  have HC := Lib.hid (celled_e L A c n cl v w hv h0 hL hm)
  have hnz : (v != 0) = true := by simpa using h0
  clear hL hm hv
  go_enter Tryz.func4, Tryz.ntmps4
  go_wp2_with fail
  refine HC.out.mono ?_
  rintro e w1 ⟨rfl, hb⟩
  have HB := Lib.hid hb
  clear hb
  go_wp2_with fail
  go_ret2
  exact ⟨_, rfl, World.ownsRow_nil _ _ _ _, HB.out.alloc HB.out.size _⟩
/-- The grasps, or none. -/
def graE (L : List NSi) (n cl : Int) : List ByteArray := if celG L n cl = 0 then grL (sites L) (dirV n cl) else []
theorem Grasp_ (L : List NSi) (A : Option Addr) (c : Nat) (n cl : Int) (w : World) (hL : Sl w w.heap.size 10 A L.length c (nsCells L)) (hm : ∀ x ∈ L, x.nm.size ≤ maxLen) (hM : RdN w) :
    Calls Tryz.prog 4 #[.slice A L.length c, .int .i64 n, .int .i64 cl] w (GraspOut (celG L n cl) (graE L n cl) w) := by
  unfold graE
  by_cases h : celG L n cl = 0
  · rw [if_pos h, h]
    obtain ⟨h1, h2⟩ := celG_ok h
    exact Grasp_ok L A c n cl w h1 h2 hL hm hM
  · rw [if_neg h]
    exact Grasp_e L A c n cl _ w rfl h hL hm
end Go.Proofs.YtpphnnijnnfngaaGreatDoor
