/-
  Rational numbers of package num: the walk of plus.
-/
import Derived.Test.YtpphnnijnnfngaaGreatDoorW02
import Derived.Deep.RegionHeld3
import Derived.Deep.Cut
namespace Go.Proofs.YtpphnnijnnfngaaGreatDoor
open Go.RowKit Al Nat9

/-- A rational number lies in memory. -/
structure RIn (w : World) (r : Rat9) (A : Option Addr) (c : Nat) (D : Option Addr) (d : Nat) : Prop where
  n : NaIn w A c r.n
  d : NaIn w D d r.d
theorem RIn.below {w w' : World} {r : Rat9} {A D : Option Addr} {c d : Nat} (h : RIn w r A c D d) (hb : Below w.heap.size w w') : RIn w' r A c D d := ⟨h.n.below hb, h.d.below hb⟩
set_option maxRecDepth 100000 in
set_option maxHeartbeats 8000000 in
theorem rplus_ (a b : Rat9) (A1 D1 A2 D2 : Option Addr) (c1 d1 c2 d2 : Nat) (w : World) (ha : RIn w a A1 c1 D1 d1) (hb : RIn w b A2 c2 D2 d2) (ha1 : a.n < 10000) (ha2 : a.d < 10000) (ha3 : 0 < a.d) (hb1 : b.n < 10000) (hb2 : b.d < 10000) (hb3 : 0 < b.d) :
    Calls Tryz.prog 54 #[a.val A1 c1 D1 d1, b.val A2 c2 D2 d2] w (RatT (a.add b) w) := by
  have HA := Lib.hid ha
  have HB := Lib.hid hb
  clear ha hb
  have hsh : ∀ v, v < 1000000000 → (dg v).length ≤ 1048576 := fun v hv => Nat.le_trans (dg_short hv) (by omega)
  have HSH := Lib.hid hsh
  clear hsh
  obtain ⟨p1, hp1⟩ : ∃ p, a.n * b.d = p := ⟨_, rfl⟩
  obtain ⟨p2, hp2⟩ : ∃ p, b.n * a.d = p := ⟨_, rfl⟩
  obtain ⟨p3, hp3⟩ : ∃ p, a.d * b.d = p := ⟨_, rfl⟩
  have l1 : p1 ≤ 99980001 := by rw [← hp1]; exact Nat.mul_le_mul (show a.n ≤ 9999 by omega) (show b.d ≤ 9999 by omega)
  have l2 : p2 ≤ 99980001 := by rw [← hp2]; exact Nat.mul_le_mul (show b.n ≤ 9999 by omega) (show a.d ≤ 9999 by omega)
  have l3 : p3 ≤ 99980001 := by rw [← hp3]; exact Nat.mul_le_mul (show a.d ≤ 9999 by omega) (show b.d ≤ 9999 by omega)
  have l4 : 0 < p3 := by rw [← hp3]; exact Nat.mul_pos ha3 hb3
  obtain ⟨s, hs⟩ : ∃ s, addS a.m p1 b.m p2 = s := ⟨_, rfl⟩
  have l5 : s.2 < 1000000000 := by
    rw [← hs]
    unfold addS
    split
    · show p1 + p2 < _; omega
    · split
      · show p1 - p2 < _; omega
      · show p2 - p1 < _; omega
  have hadd : a.add b = red s.1 s.2 p3 := by
    unfold Rat9.add
    rw [hp1, hp2, hp3, hs]
  obtain ⟨r, hr⟩ : ∃ r, red s.1 s.2 p3 = r := ⟨_, rfl⟩
  rw [hadd, hr]
  have HRR := Lib.hid hr
  clear hr
  have HT1 : Hid (∀ W, Below w.heap.size w W → Calls Tryz.prog 83 #[.slice A1 (dg a.n).length c1, .slice D2 (dg b.d).length d2] W (NaT p1 W)) := fun W hW => hp1 ▸ times_ a.n b.d A1 D2 c1 d2 W (HA.out.below hW).n (HB.out.below hW).d (HSH.out _ (by omega)) (HSH.out _ (by omega))
  have HT2 : Hid (∀ W, Below w.heap.size w W → Calls Tryz.prog 83 #[.slice A2 (dg b.n).length c2, .slice D1 (dg a.d).length d1] W (NaT p2 W)) := fun W hW => hp2 ▸ times_ b.n a.d A2 D1 c2 d1 W (HB.out.below hW).n (HA.out.below hW).d (HSH.out _ (by omega)) (HSH.out _ (by omega))
  have HT3 : Hid (∀ W, Below w.heap.size w W → Calls Tryz.prog 83 #[.slice D1 (dg a.d).length d1, .slice D2 (dg b.d).length d2] W (NaT p3 W)) := fun W hW => hp3 ▸ times_ a.d b.d D1 D2 d1 d2 W (HA.out.below hW).d (HB.out.below hW).d (HSH.out _ (by omega)) (HSH.out _ (by omega))
  have HS := Lib.hid hs
  clear hadd hs hp1 hp2 hp3 ha1 ha2 ha3 hb1 hb2 hb3
  obtain ⟨am, an, ad⟩ := a
  obtain ⟨bm, bn, bd⟩ := b
  simp only at HT1 HT2 HT3 HS
  go_enter Tryz.func54, Tryz.ntmps54
  go_upto_region 1 with fail
  obtain ⟨X, hX⟩ : ∃ X, (((w.alloc (.cells #[.bool am, .slice A1 (dg an).length c1, .slice D1 (dg ad).length d1] 69)).alloc (.cells #[.bool bm, .slice A2 (dg bn).length c2, .slice D2 (dg bd).length d2] 69)).alloc (.cells #[.bool false, .slice none 0 0, .slice none 0 0] 69)) = X := ⟨_, rfl⟩
  have HX : Hid (Below w.heap.size w X) := by show Below _ _ _; rw [← hX]; exact (by repeat (first | exact Below.refl _ _ | assumption | refine below_drewN ?_ _ | refine Below.drew ?_ | refine Below.setCell ?_ (by first | omega | (simp; done) | (simp; omega)) _ | refine Below.alloc ?_ (by first | omega | (simp; done) | (simp; omega)) _))
  have x0 : X.cell? ⟨w.heap.size, 0, none⟩ = some (.bool am) := by rw [← hX]; simp [go_sem]
  have x1 : X.cell? ⟨w.heap.size, 1, none⟩ = some (.slice A1 (dg an).length c1) := by rw [← hX]; simp [go_sem]
  have x2 : X.cell? ⟨w.heap.size, 2, none⟩ = some (.slice D1 (dg ad).length d1) := by rw [← hX]; simp [go_sem]
  have y0 : X.cell? ⟨w.heap.size + 1, 0, none⟩ = some (.bool bm) := by rw [← hX]; simp [go_sem]
  have y1 : X.cell? ⟨w.heap.size + 1, 1, none⟩ = some (.slice A2 (dg bn).length c2) := by rw [← hX]; simp [go_sem]
  have y2 : X.cell? ⟨w.heap.size + 1, 2, none⟩ = some (.slice D2 (dg bd).length d2) := by rw [← hX]; simp [go_sem]
  have hXs : X.heap.size = w.heap.size + 1 + 1 + 1 := by rw [← hX]; simp
  have hx0 : w.heap.size < X.heap.size := by omega
  have hx1 : w.heap.size + 1 < X.heap.size := by omega
  rw [hX]
  go_region_held3 (fun w' => ∀ k o, k < X.heap.size → w'.cell? ⟨k, o, none⟩ = X.cell? ⟨k, o, none⟩) (first | exact kN | exact fun k o h => rfl)
    (first
      | (go_at_call 83; (with_reducible show Calls _ _ #[Value.slice A2 (dg bn).length c2, Value.slice D1 (dg ad).length d1] _ _); refine (HT2.out _ (HX.out.trans ((HBw4.out.trans ((show Below w4.heap.size w4 _ from (by (repeat (first | exact Below.refl _ _ | assumption | refine below_drewN ?_ _ | refine Below.drew ?_ | refine Below.setCell ?_ (by first | omega | (simp; done) | (simp; omega)) _ | refine Below.alloc ?_ (by first | omega | (simp; done) | (simp; omega)) _)))).mono HBw4.out.size)).mono (by omega)))).mono ?_; intro e w5 hnt; obtain ⟨Q, qc, he, hq, hbn⟩ := hnt; subst he; have Hw5 := Lib.hid hq; have HBw5 : Hid (Below w4.heap.size w4 w5) := (show Below w4.heap.size w4 _ from (by (repeat (first | exact Below.refl _ _ | assumption | refine below_drewN ?_ _ | refine Below.drew ?_ | refine Below.setCell ?_ (by first | omega | (simp; done) | (simp; omega)) _ | refine Below.alloc ?_ (by first | omega | (simp; done) | (simp; omega)) _)))).trans (hbn.mono (by first | omega | (simp; done) | (simp; omega))); have kN := (fun k o (h : k < X.heap.size) => (HBw4.out.trans (HBw5.out.mono HBw4.out.size)).cell (p := ⟨k, o, none⟩) h); clear hq hbn)
      | (go_at_call 83; (with_reducible show Calls _ _ #[Value.slice A1 (dg an).length c1, Value.slice D2 (dg bd).length d2] _ _); refine (HT1.out _ (HX.out.trans ((show Below X.heap.size X _ from (by (repeat (first | exact Below.refl _ _ | assumption | refine below_drewN ?_ _ | refine Below.drew ?_ | refine Below.setCell ?_ (by first | omega | (simp; done) | (simp; omega)) _ | refine Below.alloc ?_ (by first | omega | (simp; done) | (simp; omega)) _)))).mono (by omega)))).mono ?_; intro e w4 hnt; obtain ⟨P, pc, he, hq, hbn⟩ := hnt; subst he; have Hw4 := Lib.hid hq; have HBw4 : Hid (Below X.heap.size X w4) := (show Below X.heap.size X _ from (by (repeat (first | exact Below.refl _ _ | assumption | refine below_drewN ?_ _ | refine Below.drew ?_ | refine Below.setCell ?_ (by first | omega | (simp; done) | (simp; omega)) _ | refine Below.alloc ?_ (by first | omega | (simp; done) | (simp; omega)) _)))).trans (hbn.mono (by first | omega | (simp; done) | (simp; omega))); have kN := (fun k o (h : k < X.heap.size) => (HBw4.out).cell (p := ⟨k, o, none⟩) h); clear hq hbn)
      | (go_at_call 82; refine (added_ am bm p1 p2 _ _ _ _ _ (Hw4.out.below (HBw5.out.trans ((show Below w5.heap.size w5 _ from (by (repeat (first | exact Below.refl _ _ | assumption | refine below_drewN ?_ _ | refine Below.drew ?_ | refine Below.setCell ?_ (by first | omega | (simp; done) | (simp; omega)) _ | refine Below.alloc ?_ (by first | omega | (simp; done) | (simp; omega)) _)))).mono HBw5.out.size))) (Hw5.out.below (show Below w5.heap.size w5 _ from (by (repeat (first | exact Below.refl _ _ | assumption | refine below_drewN ?_ _ | refine Below.drew ?_ | refine Below.setCell ?_ (by first | omega | (simp; done) | (simp; omega)) _ | refine Below.alloc ?_ (by first | omega | (simp; done) | (simp; omega)) _))))) (HSH.out _ (by omega)) (HSH.out _ (by omega))).mono ?_; intro e w6 hnt; obtain ⟨R, rc, he, hq, hbn⟩ := hnt; subst he; rw [HS.out] at hq ⊢; have Hw6 := Lib.hid hq; have HBw6 : Hid (Below X.heap.size X w6) := HBw4.out.trans ((HBw5.out.trans (((show Below w5.heap.size w5 _ from (by (repeat (first | exact Below.refl _ _ | assumption | refine below_drewN ?_ _ | refine Below.drew ?_ | refine Below.setCell ?_ (by first | omega | (simp; done) | (simp; omega)) _ | refine Below.alloc ?_ (by first | omega | (simp; done) | (simp; omega)) _)))).trans (hbn.mono (by first | omega | (simp; done) | (simp; omega)))).mono HBw5.out.size)).mono HBw4.out.size); have kN := (fun k o (h : k < X.heap.size) => (HBw6.out).cell (p := ⟨k, o, none⟩) h); clear hq hbn))
  have u2 : w6.cell? ⟨w.heap.size, 2, none⟩ = some (.slice D1 (dg ad).length d1) := (HBw6.out.cell (p := ⟨_, 2, none⟩) hx0).trans x2
  have v2 : w6.cell? ⟨w.heap.size + 1, 2, none⟩ = some (.slice D2 (dg bd).length d2) := (HBw6.out.cell (p := ⟨_, 2, none⟩) hx1).trans y2
  go_wp2_with fail
  have HWX : Hid (Below w.heap.size w w6) := HX.out.trans (HBw6.out.mono (by omega))
  have hz6 : X.heap.size ≤ w6.heap.size := HBw6.out.size
  refine (HT3.out _ HWX.out).mono ?_
  rintro e w7 ⟨T, tc, rfl, hq, hb⟩
  have HT7 := Lib.hid hq
  have HS7 := Lib.hid (Hw6.out.below hb)
  have HB7 : Hid (Below X.heap.size X w7) := HBw6.out.trans (hb.mono hz6)
  clear hq hb
  go_wp2_with fail
  have hred := reduced_ s.1 s.2 p3 _ _ _ _ w7 HS7.out HT7.out l5 l4 (by omega)
  rw [HRR.out] at hred
  refine hred.mono ?_
  clear hred
  rintro e w8 ⟨N8, nc, D8, dc, rfl, hn, hd, hb⟩
  have HN8 := Lib.hid hn
  have HD8 := Lib.hid hd
  have hz7 := HB7.out.size
  have HB8 : Hid (Below X.heap.size X w8) := HB7.out.trans (hb.mono hz7)
  clear hn hd hb
  have HBX : Hid (Below (((w.alloc (.cells #[.bool am, .slice A1 (dg an).length c1, .slice D1 (dg ad).length d1] 69)).alloc (.cells #[.bool bm, .slice A2 (dg bn).length c2, .slice D2 (dg bd).length d2] 69)).heap.size + 1) (((w.alloc (.cells #[.bool am, .slice A1 (dg an).length c1, .slice D1 (dg ad).length d1] 69)).alloc (.cells #[.bool bm, .slice A2 (dg bn).length c2, .slice D2 (dg bd).length d2] 69)).alloc (.cells #[.bool false, .slice none 0 0, .slice none 0 0] 69)) w8) := by
    show Below _ _ _
    rw [hX]
    exact HB8.out.mono (by rw [hXs]; simp)
  have HK := fun (A : Option Addr) (c v : Nat) (hn : NaIn w8 A c v) (p q r : Value) => box_keeps HBX.out hn p q r
  have HBC := box_cells HBX.out
  simp only [World.size_alloc] at HBC HK
  obtain ⟨-, q0, q1, q2, f0, f1, f2, hlt⟩ := HBC
  have HKK := Lib.hid HK
  have HW8 : Hid (Below w.heap.size w w8) := HX.out.trans (HB8.out.mono (by omega))
  clear HK u2 v2 x0 x1 x2 y0 y1 y2 hX
  go_wp2_with fail
  refine bodyPost_ret (v := .agg #[.bool r.m, .slice N8 (dg r.n).length nc, .slice D8 (dg r.d).length dc]) (by simp [results, Tryz.results54, go_sem, q0, q1, q2]) rfl ⟨N8, nc, D8, dc, rfl, HKK.out _ _ _ HN8.out _ _ _, HKK.out _ _ _ HD8.out _ _ _, (by repeat (first | exact Below.refl _ _ | exact (HW8).out | refine below_drewN ?_ _ | refine Below.drew ?_ | refine Below.setCell ?_ (by first | omega | (simp; done) | (simp; omega)) _ | refine Below.alloc ?_ (by first | omega | (simp; done) | (simp; omega)) _))⟩
end Go.Proofs.YtpphnnijnnfngaaGreatDoor

/-
  Rational numbers of package num: the walk of compare.
-/
namespace Go.Proofs.YtpphnnijnnfngaaGreatDoor
open Go.RowKit Al Nat9

/-- A fresh box for a rational number. -/
structure Zb (W : World) (B : Nat) : Prop where
  c0 : W.cell? ⟨B, 0, none⟩ = some (.bool false)
  c1 : W.cell? ⟨B, 1, none⟩ = some (.slice none 0 0)
  c2 : W.cell? ⟨B, 2, none⟩ = some (.slice none 0 0)
  f0 : W.frozen? ⟨B, 0, none⟩ = false
  f1 : W.frozen? ⟨B, 1, none⟩ = false
  f2 : W.frozen? ⟨B, 2, none⟩ = false
  lt : B < W.heap.size
theorem zb_new (w : World) : Zb (w.alloc (.cells #[.bool false, .slice none 0 0, .slice none 0 0] 69)) w.heap.size := by
  constructor <;> simp [go_sem]
theorem Zb.keep {W W' : World} {B : Nat} (h : Zb W B) (hb : Below W.heap.size W W') : Zb W' B :=
  ⟨(hb.cell (p := ⟨B, 0, none⟩) h.lt).trans h.c0, (hb.cell (p := ⟨B, 1, none⟩) h.lt).trans h.c1, (hb.cell (p := ⟨B, 2, none⟩) h.lt).trans h.c2,
   (hb.frozen (p := ⟨B, 0, none⟩) h.lt).trans h.f0, (hb.frozen (p := ⟨B, 1, none⟩) h.lt).trans h.f1, (hb.frozen (p := ⟨B, 2, none⟩) h.lt).trans h.f2, Nat.lt_of_lt_of_le h.lt hb.size⟩
theorem Nat9.Rat9.cmp_of {a b r : Rat9} (h : a.add b.neg = r) : a.cmp b = if r.n = 0 then 0 else if r.m = true then -1 else 1 := by unfold Rat9.cmp; rw [h]
set_option maxRecDepth 100000 in
set_option maxHeartbeats 8000000 in
theorem rcompare_ (a b : Rat9) (A1 D1 A2 D2 : Option Addr) (c1 d1 c2 d2 : Nat) (w : World) (ha : RIn w a A1 c1 D1 d1) (hb : RIn w b A2 c2 D2 d2) (ha1 : a.n < 10000) (ha2 : a.d < 10000) (ha3 : 0 < a.d) (hb1 : b.n < 10000) (hb2 : b.d < 10000) (hb3 : 0 < b.d) :
    Calls Tryz.prog 22 #[a.val A1 c1 D1 d1, b.val A2 c2 D2 d2] w fun e w' => e = .returned (.int .i64 (a.cmp b)) ∧ Below w.heap.size w w' := by
  have HA := Lib.hid ha
  have HB := Lib.hid hb
  clear ha hb
  obtain ⟨nb, hnb⟩ : ∃ nb, b.neg = nb := ⟨_, rfl⟩
  have n1 : nb.n < 10000 := by rw [← hnb]; exact hb1
  have n2 : nb.d < 10000 := by rw [← hnb]; exact hb2
  have n3 : 0 < nb.d := by rw [← hnb]; exact hb3
  obtain ⟨r, hr⟩ : ∃ r, a.add nb = r := ⟨_, rfl⟩
  have hc := Rat9.cmp_of (a := a) (b := b) (r := r) (by rw [hnb]; exact hr)
  rw [hc]
  obtain ⟨v, hv⟩ : ∃ v : Int, (if r.n = 0 then 0 else if r.m = true then -1 else 1) = v := ⟨_, rfl⟩
  rw [hv]
  have HV := Lib.hid hv
  clear hv
  have HN : Hid (∀ W, Below w.heap.size w W → Calls Tryz.prog 49 #[b.val A2 c2 D2 d2] W (RatT nb W)) := fun W hW => hnb ▸ negative_ b A2 D2 c2 d2 W (HB.out.below hW).n (HB.out.below hW).d
  have HP : Hid (∀ W (A3 D3 : Option Addr) (c3 d3 : Nat), Below w.heap.size w W → NaIn W A3 c3 nb.n → NaIn W D3 d3 nb.d → Calls Tryz.prog 54 #[a.val A1 c1 D1 d1, nb.val A3 c3 D3 d3] W (RatT r W)) := fun W A3 D3 c3 d3 hW h1 h2 => hr ▸ rplus_ a nb A1 D1 A3 D3 c1 d1 c3 d3 W (HA.out.below hW) ⟨h1, h2⟩ ha1 ha2 ha3 n1 n2 n3
  clear hc hr hnb ha1 ha2 ha3 hb1 hb2 hb3 n1 n2 n3
  obtain ⟨am, an, ad⟩ := a
  obtain ⟨bm, bn, bd⟩ := b
  simp only [Rat9.val] at HN HP
  go_enter Tryz.func22, Tryz.ntmps22
  go_upto_region 1 with fail
  obtain ⟨X, hX⟩ : ∃ X, ((w.alloc (.cells #[.bool am, .slice A1 (dg an).length c1, .slice D1 (dg ad).length d1] 69)).alloc (.cells #[.bool bm, .slice A2 (dg bn).length c2, .slice D2 (dg bd).length d2] 69)) = X := ⟨_, rfl⟩
  have HX : Hid (Below w.heap.size w X) := by show Below _ _ _; rw [← hX]; exact (by repeat (first | exact Below.refl _ _ | assumption | refine below_drewN ?_ _ | refine Below.drew ?_ | refine Below.setCell ?_ (by first | omega | (simp; done) | (simp; omega)) _ | refine Below.alloc ?_ (by first | omega | (simp; done) | (simp; omega)) _))
  have x0 : X.cell? ⟨w.heap.size, 0, none⟩ = some (.bool am) := by rw [← hX]; simp [go_sem]
  have x1 : X.cell? ⟨w.heap.size, 1, none⟩ = some (.slice A1 (dg an).length c1) := by rw [← hX]; simp [go_sem]
  have x2 : X.cell? ⟨w.heap.size, 2, none⟩ = some (.slice D1 (dg ad).length d1) := by rw [← hX]; simp [go_sem]
  have y0 : X.cell? ⟨w.heap.size + 1, 0, none⟩ = some (.bool bm) := by rw [← hX]; simp [go_sem]
  have y1 : X.cell? ⟨w.heap.size + 1, 1, none⟩ = some (.slice A2 (dg bn).length c2) := by rw [← hX]; simp [go_sem]
  have y2 : X.cell? ⟨w.heap.size + 1, 2, none⟩ = some (.slice D2 (dg bd).length d2) := by rw [← hX]; simp [go_sem]
  have hXs : X.heap.size = w.heap.size + 1 + 1 := by rw [← hX]; simp
  have hx0 : w.heap.size < X.heap.size := by omega
  have hx1 : w.heap.size + 1 < X.heap.size := by omega
  rw [hX]
  have hXl : w.heap.size ≤ X.heap.size := by omega
  clear hX hXs
  have DC : Below X.heap.size X X := Below.refl _ _
  go_region_held3 (fun w' => ∀ k o, k < X.heap.size → w'.cell? ⟨k, o, none⟩ = X.cell? ⟨k, o, none⟩) (first | exact kN | exact fun k o h => rfl | exact fun k o h => (show Below X.heap.size X _ from (by (repeat (first | exact Below.refl _ _ | assumption | refine below_drewN ?_ _ | refine Below.drew ?_ | refine Below.setCell ?_ (by first | omega | (simp; done) | (simp; omega)) _ | refine Below.alloc ?_ (by first | omega | (simp; done) | (simp; omega)) _)))).cell (p := ⟨k, o, none⟩) h)
    (first
      | (go_at_call 49; refine (HN.out _ (HX.out.trans ((show Below X.heap.size X _ from (by (repeat (first | exact Below.refl _ _ | assumption | refine below_drewN ?_ _ | refine Below.drew ?_ | refine Below.setCell ?_ (by first | omega | (simp; done) | (simp; omega)) _ | refine Below.alloc ?_ (by first | omega | (simp; done) | (simp; omega)) _)))).mono (by omega)))).mono ?_; intro e w4 hnt; obtain ⟨A3, c3, D3, d3, he, hn3, hd3, hbn⟩ := hnt; subst he; have DC4 : Below X.heap.size X w4 := (show Below X.heap.size X _ from (by (repeat (first | exact Below.refl _ _ | assumption | refine below_drewN ?_ _ | refine Below.drew ?_ | refine Below.setCell ?_ (by first | omega | (simp; done) | (simp; omega)) _ | refine Below.alloc ?_ (by first | omega | (simp; done) | (simp; omega)) _)))).trans (hbn.mono (by first | omega | (simp; done) | (simp; omega))); have hn3H := Lib.hid hn3; have hd3H := Lib.hid hd3; have kN := (fun k o (h : k < X.heap.size) => DC4.cell (p := ⟨k, o, none⟩) h); (try have Z4 := Zb.keep (B := X.heap.size) (by first | exact zb_new _ | exact (zb_new _).keep ((Below.refl _ _).drew)) hbn); have hz4 := hbn.size; (try simp at hz4); clear hn3 hd3 hbn)
      | (go_at_call 54; refine (HP.out _ _ _ _ _ (HX.out.trans ((show Below X.heap.size X _ from (by (repeat (first | exact Below.refl _ _ | assumption | refine below_drewN ?_ _ | refine Below.drew ?_ | refine Below.setCell ?_ (by first | omega | (simp; done) | (simp; omega)) _ | refine Below.alloc ?_ (by first | omega | (simp; done) | (simp; omega)) _)))).mono (by omega))) (hn3H.out.below (show Below w4.heap.size w4 _ from (by (repeat (first | exact Below.refl _ _ | assumption | refine below_drewN ?_ _ | refine Below.drew ?_ | refine Below.setCell ?_ (by first | omega | (simp; done) | (simp; omega)) _ | refine Below.alloc ?_ (by first | omega | (simp; done) | (simp; omega)) _))))) (hd3H.out.below (show Below w4.heap.size w4 _ from (by (repeat (first | exact Below.refl _ _ | assumption | refine below_drewN ?_ _ | refine Below.drew ?_ | refine Below.setCell ?_ (by first | omega | (simp; done) | (simp; omega)) _ | refine Below.alloc ?_ (by first | omega | (simp; done) | (simp; omega)) _)))))).mono ?_; intro e w5 hnt; obtain ⟨A5, c5, D5, d5, he, -, -, hbn⟩ := hnt; subst he; have DC5 : Below X.heap.size X w5 := (show Below X.heap.size X _ from (by (repeat (first | exact Below.refl _ _ | assumption | refine below_drewN ?_ _ | refine Below.drew ?_ | refine Below.setCell ?_ (by first | omega | (simp; done) | (simp; omega)) _ | refine Below.alloc ?_ (by first | omega | (simp; done) | (simp; omega)) _)))).trans (hbn.mono (by first | omega | (simp; done) | (simp; omega))); have kN := (fun k o (h : k < X.heap.size) => DC5.cell (p := ⟨k, o, none⟩) h); (try (have Z5 := Zb.keep (B := X.heap.size) (by first | exact Z4 | exact Z4.keep ((Below.refl _ _).drew)) hbn; obtain ⟨q0, q1, q2, f0, f1, f2, hlt⟩ := Z5)); (try (have Z5 := Zb.keep (B := w4.heap.size) (by first | exact zb_new _ | exact (zb_new _).keep ((Below.refl _ _).drew)) hbn; obtain ⟨q0, q1, q2, f0, f1, f2, hlt⟩ := Z5)); have hz5 := hbn.size; (try simp at hz5); clear hbn))
  all_goals
    go_wp2_with fail
    refine (zero_ r _ _ _ _ _).mono ?_
    rintro e w6 ⟨rfl, hb6⟩
    obtain ⟨hc6, hf6⟩ := bcell hb6
    have hz6 := hb6.size
    try simp at hz6
    have HB6 : Hid (Below w.heap.size w w6) := HX.out.trans (((show Below X.heap.size X _ from (by repeat (first | exact Below.refl _ _ | assumption | refine below_drewN ?_ _ | refine Below.drew ?_ | refine Below.setCell ?_ (by first | omega | (simp; done) | (simp; omega)) _ | refine Below.alloc ?_ (by first | omega | (simp; done) | (simp; omega)) _))).trans (hb6.mono (by first | omega | (simp; done) | (simp; omega)))).mono hXl)
    clear hb6
    by_cases h0 : r.n = 0
    · rw [decide_eq_true h0]
      obtain rfl : v = 0 := by rw [← HV.out, if_pos h0]
      clear h0
      go_wp2_with fail
      go_ret
      exact ⟨rfl, (by repeat (first | exact Below.refl _ _ | exact (HB6).out | refine below_drewN ?_ _ | refine Below.drew ?_ | refine Below.setCell ?_ (by first | omega | (simp; done) | (simp; omega)) _ | refine Below.alloc ?_ (by first | omega | (simp; done) | (simp; omega)) _))⟩
    · rw [decide_eq_false h0]
      cases hm : r.m with
      | true =>
        obtain rfl : v = -1 := by rw [← HV.out, if_neg h0, if_pos hm]
        clear h0
        go_wp2_with fail
        go_ret
        exact ⟨rfl, (by repeat (first | exact Below.refl _ _ | exact (HB6).out | refine below_drewN ?_ _ | refine Below.drew ?_ | refine Below.setCell ?_ (by first | omega | (simp; done) | (simp; omega)) _ | refine Below.alloc ?_ (by first | omega | (simp; done) | (simp; omega)) _))⟩
      | false =>
        obtain rfl : v = 1 := by rw [← HV.out, if_neg h0, if_neg (by rw [hm]; decide)]
        clear h0
        go_wp2_with fail
        go_ret
        exact ⟨rfl, (by repeat (first | exact Below.refl _ _ | exact (HB6).out | refine below_drewN ?_ _ | refine Below.drew ?_ | refine Below.setCell ?_ (by first | omega | (simp; done) | (simp; omega)) _ | refine Below.alloc ?_ (by first | omega | (simp; done) | (simp; omega)) _))⟩
end Go.Proofs.YtpphnnijnnfngaaGreatDoor

/-
  Numbers of package num: real values in memory; the walks of whole, plain, isReal.
-/
namespace Go.Proofs.YtpphnnijnnfngaaGreatDoor
open Go.RowKit Al Nat9

/-- Where a real value's digits lie. -/
structure VR where
  r : Rat9
  A : Option Addr
  c : Nat
  D : Option Addr
  d : Nat
  B : Option Addr
  b : Nat
  E : Option Addr
  f : Nat
def VR.cells (v : VR) : List Value := [.bool v.r.m, .slice v.A (dg v.r.n).length v.c, .slice v.D (dg v.r.d).length v.d, .bool false, .slice v.B 0 v.b, .slice v.E 1 v.f]
@[reducible] def VR.val (v : VR) : Value := .agg #[.bool v.r.m, .slice v.A (dg v.r.n).length v.c, .slice v.D (dg v.r.d).length v.d, .bool false, .slice v.B 0 v.b, .slice v.E 1 v.f]
@[reducible] def VR.zer : Rat9 := ⟨false, 0, 1⟩
/-- A real value lies in memory. -/
structure VR.ok (w : World) (v : VR) : Prop where
  n : NaIn w v.A v.c v.r.n
  d : NaIn w v.D v.d v.r.d
  z : NaIn w v.B v.b 0
  o : NaIn w v.E v.f 1
theorem VR.ok.below {w w' : World} {v : VR} (h : v.ok w) (hb : Below w.heap.size w w') : v.ok w' := ⟨h.n.below hb, h.d.below hb, h.z.below hb, h.o.below hb⟩
/-- A real value is handed back. -/
def RealT (x : Rat9) (w : World) (e : Ending) (w' : World) : Prop := ∃ v : VR, v.r = x ∧ e = .returned v.val ∧ v.ok w' ∧ Below w.heap.size w w'
theorem len0 : (dg 0).length = 0 := by rw [dg_zero]; rfl
theorem len1 : (dg 1).length = 1 := by rw [dg_one]; rfl

/-- A fresh box for a value. -/
structure Zv (W : World) (B : Nat) : Prop where
  c0 : W.cell? ⟨B, 0, none⟩ = some (.bool false)
  c1 : W.cell? ⟨B, 1, none⟩ = some (.slice none 0 0)
  c2 : W.cell? ⟨B, 2, none⟩ = some (.slice none 0 0)
  c3 : W.cell? ⟨B, 3, none⟩ = some (.bool false)
  c4 : W.cell? ⟨B, 4, none⟩ = some (.slice none 0 0)
  c5 : W.cell? ⟨B, 5, none⟩ = some (.slice none 0 0)
  f0 : W.frozen? ⟨B, 0, none⟩ = false
  f1 : W.frozen? ⟨B, 1, none⟩ = false
  f2 : W.frozen? ⟨B, 2, none⟩ = false
  f3 : W.frozen? ⟨B, 3, none⟩ = false
  f4 : W.frozen? ⟨B, 4, none⟩ = false
  f5 : W.frozen? ⟨B, 5, none⟩ = false
  lt : B < W.heap.size
  no : ∀ j k z, W.cell? ⟨B, j, none⟩ ≠ some (.int k z)
theorem zv_new (w : World) : Zv (w.alloc (.cells #[.bool false, .slice none 0 0, .slice none 0 0, .bool false, .slice none 0 0, .slice none 0 0] 71)) w.heap.size := by
  refine ⟨?_, ?_, ?_, ?_, ?_, ?_, ?_, ?_, ?_, ?_, ?_, ?_, ?_, fun j k z hc => ?_⟩
  all_goals first | (simp [go_sem]; done) | skip
  rw [World.cell?_alloc_new] at hc
  match j with
  | 0 => simp at hc
  | 1 => simp at hc
  | 2 => simp at hc
  | 3 => simp at hc
  | 4 => simp at hc
  | 5 => simp at hc
  | j + 6 => simp at hc
theorem Zv.keep {W W' : World} {B : Nat} (h : Zv W B) (hb : Below W.heap.size W W') : Zv W' B :=
  have e := fun j => hb.cell (p := ⟨B, j, none⟩) h.lt
  have f := fun j => hb.frozen (p := ⟨B, j, none⟩) h.lt
  ⟨(e 0).trans h.c0, (e 1).trans h.c1, (e 2).trans h.c2, (e 3).trans h.c3, (e 4).trans h.c4, (e 5).trans h.c5, (f 0).trans h.f0, (f 1).trans h.f1, (f 2).trans h.f2, (f 3).trans h.f3, (f 4).trans h.f4, (f 5).trans h.f5, Nat.lt_of_lt_of_le h.lt hb.size, fun j k z hc => h.no j k z ((e j).symm.trans hc)⟩
/-- What six stores into the box leave of a natural number. -/
theorem zv_keeps {W : World} {B : Nat} (h : Zv W B) {A : Option Addr} {c v : Nat} (hn : NaIn W A c v) (p0 p1 p2 p3 p4 p5 : Value) :
    NaIn ((((((W.setCell ⟨B, 0, none⟩ p0).setCell ⟨B, 1, none⟩ p1).setCell ⟨B, 2, none⟩ p2).setCell ⟨B, 3, none⟩ p3).setCell ⟨B, 4, none⟩ p4).setCell ⟨B, 5, none⟩ p5) A c v := by
  refine hn.apart (B := B) h.no (by simp) (fun b hb _ => ?_)
  rw [heap_store hb, heap_store hb, heap_store hb, heap_store hb, heap_store hb, heap_store hb]
theorem zv_below {w W : World} {b B : Nat} (h : Below b w W) (hB : b ≤ B) (p0 p1 p2 p3 p4 p5 : Value) :
    Below b w ((((((W.setCell ⟨B, 0, none⟩ p0).setCell ⟨B, 1, none⟩ p1).setCell ⟨B, 2, none⟩ p2).setCell ⟨B, 3, none⟩ p3).setCell ⟨B, 4, none⟩ p4).setCell ⟨B, 5, none⟩ p5) := by
  iterate 6 refine Below.setCell ?_ hB _
  exact h
set_option maxRecDepth 100000 in
set_option maxHeartbeats 4000000 in
theorem whole_ (n : Nat) (hn : n < 1000000000) (w : World) : Calls Tryz.prog 58 #[.int .i64 (n : Int)] w (RatT ⟨false, n, 1⟩ w) := by
  have n0 : ¬ (n : Int) < 0 := by omega
  have n1 : (n : Int) < 18446744073709551616 := by omega
  have n2 : (0 : Int) ≤ (n : Int) := by omega
  have HL := Lib.hid len1
  go_enter Tryz.func58, Tryz.ntmps58
  go_wp2_with fail
  refine (natural_ n _ (by omega)).mono ?_
  rintro e w1 ⟨A, c, rfl, hq, hb⟩
  have HN := Lib.hid hq
  have HB1 : Hid (Below (w.heap.size + 1) (w.alloc (.cells #[.bool false, .slice none 0 0, .slice none 0 0] 69)) w1) := by show Below _ _ _; simpa using hb
  clear hq hb
  go_wp2_with fail
  refine (one_ _).mono ?_
  rintro e w2 ⟨D, d, rfl, hq, hb⟩
  rw [HL.out]
  have HN1 := Lib.hid (HN.out.below hb)
  have HD := Lib.hid hq
  have hz1 := HB1.out.size
  simp at hz1
  have HB2 : Hid (Below (w.heap.size + 1) (w.alloc (.cells #[.bool false, .slice none 0 0, .slice none 0 0] 69)) w2) := HB1.out.trans (hb.mono (by omega))
  have HW : Hid (Below w.heap.size w w2) := (show Below w.heap.size w _ from (by repeat (first | exact Below.refl _ _ | assumption | refine below_drewN ?_ _ | refine Below.drew ?_ | refine Below.setCell ?_ (by first | omega | (simp; done) | (simp; omega)) _ | refine Below.alloc ?_ (by first | omega | (simp; done) | (simp; omega)) _))).trans (HB2.out.mono (by simp))
  clear hq hb
  obtain ⟨-, q0, q1, q2, f0, f1, f2, hlt⟩ := box_cells HB2.out
  go_wp2_with fail
  refine bodyPost_ret (v := .agg #[.bool false, .slice A (dg n).length c, .slice D 1 d]) (by simp [results, Tryz.results58, go_sem, q0, q1, q2]) rfl ⟨A, c, D, d, by rw [HL.out], box_keeps HB2.out HN1.out _ _ _, box_keeps HB2.out HD.out _ _ _, (by repeat (first | exact Below.refl _ _ | exact (HW).out | refine below_drewN ?_ _ | refine Below.drew ?_ | refine Below.setCell ?_ (by first | omega | (simp; done) | (simp; omega)) _ | refine Below.alloc ?_ (by first | omega | (simp; done) | (simp; omega)) _))⟩
set_option maxRecDepth 100000 in
set_option maxHeartbeats 4000000 in
theorem isReal_ (v : VR) (w : World) : Calls Tryz.prog 53 #[v.val] w fun e w' => e = .returned (.bool true) ∧ Below w.heap.size w w' := by
  obtain ⟨r, A, c, D, d, B, b, E, f⟩ := v
  simp only [VR.val]
  have HZ : Hid (∀ W, Calls Tryz.prog 55 #[.agg #[.bool false, .slice B 0 b, .slice E 1 f]] W fun e w' => e = .returned (.bool true) ∧ Below W.heap.size W w') := fun W => by
    have h := zero_ VR.zer B E b f W
    simp only [Rat9.val, len0, len1] at h
    exact h
  go_enter Tryz.func53, Tryz.ntmps53
  go_wp2_with fail
  refine (HZ.out _).mono ?_
  rintro e w1 ⟨rfl, hb⟩
  have HW : Hid (Below w.heap.size w w1) := (show Below w.heap.size w _ from (by repeat (first | exact Below.refl _ _ | assumption | refine below_drewN ?_ _ | refine Below.drew ?_ | refine Below.setCell ?_ (by first | omega | (simp; done) | (simp; omega)) _ | refine Below.alloc ?_ (by first | omega | (simp; done) | (simp; omega)) _))).trans (hb.mono (by first | omega | (simp; done) | (simp; omega)))
  clear hb
  go_wp2_with fail
  go_ret
  exact ⟨rfl, HW.out⟩
set_option maxRecDepth 100000 in
set_option maxHeartbeats 4000000 in
theorem plain_ (x : Rat9) (A D : Option Addr) (c d : Nat) (w : World) (h : RIn w x A c D d) : Calls Tryz.prog 59 #[x.val A c D d] w (RealT x w) := by
  have H := Lib.hid h
  clear h
  have HL := Lib.hid len1
  obtain ⟨xm, xn, xd⟩ := x
  simp only [Rat9.val]
  go_enter Tryz.func59, Tryz.ntmps59
  go_upto_region 1 with fail
  obtain ⟨X, hX⟩ : ∃ X, ((w.alloc (.cells #[.bool xm, .slice A (dg xn).length c, .slice D (dg xd).length d] 69)).alloc (.cells #[.bool false, .slice none 0 0, .slice none 0 0, .bool false, .slice none 0 0, .slice none 0 0] 71)) = X := ⟨_, rfl⟩
  have ZX : Zv X (w.heap.size + 1) := by rw [← hX]; have h := zv_new (w.alloc (.cells #[.bool xm, .slice A (dg xn).length c, .slice D (dg xd).length d] 69)); simpa using h
  have HX : Hid (Below w.heap.size w X) := by show Below _ _ _; rw [← hX]; exact (by repeat (first | exact Below.refl _ _ | assumption | refine below_drewN ?_ _ | refine Below.drew ?_ | refine Below.setCell ?_ (by first | omega | (simp; done) | (simp; omega)) _ | refine Below.alloc ?_ (by first | omega | (simp; done) | (simp; omega)) _))
  have x0 : X.cell? ⟨w.heap.size, 0, none⟩ = some (.bool xm) := by rw [← hX]; simp [go_sem]
  have x1 : X.cell? ⟨w.heap.size, 1, none⟩ = some (.slice A (dg xn).length c) := by rw [← hX]; simp [go_sem]
  have x2 : X.cell? ⟨w.heap.size, 2, none⟩ = some (.slice D (dg xd).length d) := by rw [← hX]; simp [go_sem]
  have hXs : X.heap.size = w.heap.size + 1 + 1 := by rw [← hX]; simp
  have hx0 : w.heap.size < X.heap.size := by omega
  have hXl : w.heap.size ≤ X.heap.size := by omega
  have hXl1 : w.heap.size + 1 < X.heap.size := by omega
  rw [hX]
  clear hX hXs
  go_region_held3 (fun w' => ∀ o, w'.cell? ⟨w.heap.size, o, none⟩ = X.cell? ⟨w.heap.size, o, none⟩) (first | (with_reducible exact kN) | (intro o; simp only [World.cell?_drew]; done) | (intro o; simp [go_sem, kN]; done))
    (first
      | (go_at_call 88; refine (one_ _).mono ?_; intro e w4 hnt; obtain ⟨E, f, he, hn, hbn⟩ := hnt; subst he; rw [HL.out]; have HO := Lib.hid hn; have HB4 : Hid (Below X.heap.size X w4) := (show Below X.heap.size X _ from (by (repeat (first | exact Below.refl _ _ | assumption | refine below_drewN ?_ _ | refine Below.drew ?_ | refine Below.setCell ?_ (by first | omega | (simp; done) | (simp; omega)) _ | refine Below.alloc ?_ (by first | omega | (simp; done) | (simp; omega)) _)))).trans (hbn.mono (by first | omega | (simp; done) | (simp; omega))); have kN := (fun o => HB4.out.cell (p := ⟨w.heap.size, o, none⟩) hx0); have Z4 := ZX.keep HB4.out; have HZ4 := Lib.hid Z4; obtain ⟨q0, q1, q2, q3, q4, q5, f0, f1, f2, f3, f4, f5, hlt, -⟩ := Z4; clear hn hbn))
  have HW : Hid (Below w.heap.size w w4) := HX.out.trans (HB4.out.mono hXl)
  go_wp2_with fail
  refine bodyPost_ret (v := .agg #[.bool xm, .slice A (dg xn).length c, .slice D (dg xd).length d, .bool false, .slice none 0 0, .slice E 1 f]) ?h1 rfl ?h2
  case h1 => simp [results, Tryz.results59, go_sem, q0, q1, q2, q3, q4, q5]
  case h2 =>
    refine ⟨⟨⟨xm, xn, xd⟩, A, c, D, d, none, 0, E, f⟩, rfl, rfl, ⟨?_, ?_, na_zero _, ?_⟩, ?_⟩
    · with_reducible exact zv_keeps HZ4.out (H.out.n.below HW.out) _ _ _ _ _ _
    · with_reducible exact zv_keeps HZ4.out (H.out.d.below HW.out) _ _ _ _ _ _
    · with_reducible exact zv_keeps HZ4.out HO.out _ _ _ _ _ _
    · with_reducible exact zv_below HW.out (Nat.le_succ _) _ _ _ _ _ _
end Go.Proofs.YtpphnnijnnfngaaGreatDoor
