/-
  The walk of the sky's CellOf.
-/
import Derived.Test.YtcclfhdglhbpcaaGreatDoorW24
import Derived.Test.YtcclfhdglhbpcaaGreatDoorW02
namespace Go.Proofs.YtcclfhdglhbpcaaGreatDoor
open Go.RowKit Al Cell9

theorem mul_in {n m x : Int} (h1 : 1 ≤ n) (h8 : n ≤ 8) (hm : 0 < m) (hm2 : m ≤ 1000) (hx : -m ≤ x) (hx2 : x ≤ m) : 0 ≤ (x + m) * n ∧ (x + m) * n ≤ 16000 := by
  refine ⟨Int.mul_nonneg (by omega) (by omega), ?_⟩
  have h := Int.mul_le_mul (show x + m ≤ 2000 by omega) h8 (by omega) (by omega)
  omega
theorem tdiv_in {a d : Int} (h0 : 0 ≤ a) (hd : 0 < d) : 0 ≤ a.tdiv d ∧ a.tdiv d ≤ a := ⟨Int.tdiv_nonneg h0 (by omega), by rw [Int.tdiv_eq_ediv_of_nonneg h0]; exact Int.ediv_le_self _ h0⟩
set_option maxRecDepth 100000 in
theorem placeC_ (n m x : Int) (bn bm : Nat) (w : World) (h1 : 1 ≤ n) (h8 : n ≤ 8) (hm : 0 < m) (hm2 : m ≤ 1000) (hx : -m ≤ x) (hx2 : x ≤ m) (l1 : bn < w.heap.size) (l2 : bm < w.heap.size) (c1 : w.cell? ⟨bn, 0, none⟩ = some (.int .i64 n)) (c2 : w.cell? ⟨bm, 0, none⟩ = some (.int .i64 m)) :
    Calls Tryz.prog 66 #[.int .i64 x, .pointer (some ⟨bn, 0, none⟩), .pointer (some ⟨bm, 0, none⟩)] w fun e w' => e = .returned (.int .i64 (pl n m x)) ∧ Below w.heap.size w w' := by
  obtain ⟨m1, m2⟩ := mul_in h1 h8 hm hm2 hx hx2
  obtain ⟨d1, d2⟩ := tdiv_in m1 (show 0 < 2 * m by omega)
  have n0 : 2 * m ≠ 0 := by omega
  have n1 : (2 * m == 0) = false := by simpa using n0
  have k1 : wrap64 ((x + m) * n) = (x + m) * n := w64 (by omega) (by omega)
  have k2 : wrap64 (((x + m) * n).tdiv (2 * m)) = ((x + m) * n).tdiv (2 * m) := w64 (by omega) (by omega)
  have e : pl n m x = min (n - 1) (((x + m) * n).tdiv (2 * m)) := rfl
  rw [e]
  clear e
  generalize hq : ((x + m) * n).tdiv (2 * m) = q at *
  generalize hp : (x + m) * n = p at *
  go_enter Tryz.func66, Tryz.ntmps66
  go_wp2_with fail
  refine wp_region_bw2 (by kernel_rfl) (by kernel_rfl) (fun hbwc => ?_)
  repeat (go_big_quiet_step (fail))
  refine wpQuiet_nil ?_
  clear hbwc
  intro w1 hb
  have HB := Lib.hid hb
  clear hb
  go_wp2_with fail
  go_ret
  exact ⟨rfl, HB.out⟩
theorem vec_eq (a b c x y z : Int) (w : World) : (Op.equalIn 10000 84 (.agg #[.int .i64 a, .int .i64 b, .int .i64 c]) (.agg #[.int .i64 x, .int .i64 y, .int .i64 z])).run Tryz.prog w = .ok (a == x && (b == y && c == z)) w := run_eql_v3 a b c x y z w
attribute [local go_sem ↓] vec_eq
/-- The axis of the greatest magnitude, and it, among the first k. -/
def coF (a b c : Int) : Nat → Int × Int
  | 0 => (0, 0)
  | 1 => (0, ab a)
  | 2 => if ab a < ab b then (1, ab b) else (0, ab a)
  | _ => if (if ab a < ab b then ((1 : Int), ab b) else (0, ab a)).2 < ab c then (2, ab c) else if ab a < ab b then (1, ab b) else (0, ab a)
theorem coF_1 (a b c : Int) : coF a b c 1 = if (coF a b c 0).2 < max a (-a) then (0, max a (-a)) else coF a b c 0 := by
  show ((0 : Int), ab a) = if 0 < ab a then ((0 : Int), ab a) else (0, 0)
  have := ab_nonneg a
  split
  · rfl
  · rw [show ab a = 0 by omega]
theorem coF_2 (a b c : Int) : coF a b c 2 = if (coF a b c 1).2 < max b (-b) then (1, max b (-b)) else coF a b c 1 := rfl
theorem coF_3 (a b c : Int) : coF a b c 3 = if (coF a b c 2).2 < max c (-c) then (2, max c (-c)) else coF a b c 2 := rfl
theorem coF_end (n a b c : Int) : (coF a b c 3 = (0, ab a) ∧ cellV n a b c = ((0 + ng a) * n + pl n (ab a) b) * n + pl n (ab a) c ∧ ab b ≤ ab a ∧ ab c ≤ ab a) ∨ (coF a b c 3 = (1, ab b) ∧ cellV n a b c = ((2 + ng b) * n + pl n (ab b) a) * n + pl n (ab b) c ∧ ab a ≤ ab b ∧ ab c ≤ ab b) ∨
    (coF a b c 3 = (2, ab c) ∧ cellV n a b c = ((4 + ng c) * n + pl n (ab c) a) * n + pl n (ab c) b ∧ ab a ≤ ab c ∧ ab b ≤ ab c) := by
  unfold coF cellV
  by_cases h : ab a < ab b
  · simp only [if_pos h]
    by_cases h2 : ab b < ab c
    · simp only [if_pos h2]; exact .inr (.inr ⟨trivial, trivial, by omega, by omega⟩)
    · simp only [if_neg h2]; exact .inr (.inl ⟨trivial, trivial, by omega, by omega⟩)
  · simp only [if_neg h]
    by_cases h2 : ab a < ab c
    · simp only [if_pos h2]; exact .inr (.inr ⟨trivial, trivial, by omega, by omega⟩)
    · simp only [if_neg h2]; exact .inl ⟨trivial, trivial, by omega, by omega⟩
theorem jdx0 (a b c d e f : Value) (w : World) : Sem.run Tryz.prog (Instr.index 103 (.agg #[a, b, c, d, e, f]) (.int .i64 0)) w = .ok (.agg #[a, b]) w := by
  simp [Instr.index, go_sem]
theorem jdx1 (a b c d e f : Value) (w : World) : Sem.run Tryz.prog (Instr.index 103 (.agg #[a, b, c, d, e, f]) (.int .i64 1)) w = .ok (.agg #[c, d]) w := by
  simp [Instr.index, go_sem]
theorem jdx2 (a b c d e f : Value) (w : World) : Sem.run Tryz.prog (Instr.index 103 (.agg #[a, b, c, d, e, f]) (.int .i64 2)) w = .ok (.agg #[e, f]) w := by
  simp [Instr.index, go_sem]
theorem kdx0 (a b c : Value) (w : World) : Sem.run Tryz.prog (Instr.index 43 (.agg #[a, b, c]) (.int .i64 0)) w = .ok a w := by
  simp [Instr.index, go_sem]
theorem kdx1 (a b c : Value) (w : World) : Sem.run Tryz.prog (Instr.index 43 (.agg #[a, b, c]) (.int .i64 1)) w = .ok b w := by
  simp [Instr.index, go_sem]
theorem kdx2 (a b c : Value) (w : World) : Sem.run Tryz.prog (Instr.index 43 (.agg #[a, b, c]) (.int .i64 2)) w = .ok c w := by
  simp [Instr.index, go_sem]
attribute [local go_sem ↓] jdx0 jdx1 jdx2 kdx0 kdx1 kdx2
structure CoW (B0 bm : Nat) (n : Int) (v : V3) (m : Int) (w0 wr : World) : Prop where
  n0 : wr.cell? ⟨B0, 0, none⟩ = some (.int .i64 n)
  v0 : wr.cell? ⟨B0 + 1, 0, none⟩ = some (.int .i64 v.1)
  v1 : wr.cell? ⟨B0 + 1, 1, none⟩ = some (.int .i64 v.2.1)
  v2 : wr.cell? ⟨B0 + 1, 2, none⟩ = some (.int .i64 v.2.2)
  hm : wr.heap[bm]? = some (.cells #[.int .i64 m] 3 (0, 0))
  lt : B0 + 1 < bm
  bl : Below B0 w0 wr
section
variable {B0 bm : Nat} {n : Int} {v : V3} {m : Int} {w0 wr : World}
theorem CoW.bl2 (h : CoW B0 bm n v m w0 wr) : bm < wr.heap.size := (Array.getElem?_eq_some_iff.1 h.hm).1
theorem CoW.m0 (h : CoW B0 bm n v m w0 wr) : wr.cell? ⟨bm, 0, none⟩ = some (.int .i64 m) := by simp [World.cell?, h.hm]
theorem CoW.fr (h : CoW B0 bm n v m w0 wr) : wr.frozen? ⟨bm, 0, none⟩ = false := by simp [World.frozen?, h.hm]
theorem CoW.set (h : CoW B0 bm n v m w0 wr) (x : Int) : CoW B0 bm n v x w0 (wr.setCell ⟨bm, 0, none⟩ (.int .i64 x)) := by
  have h1 := h.lt
  refine ⟨(World.cell?_setCell_other _ _ _ _ (by first | (simp; done) | (simp; omega))).trans h.n0, (World.cell?_setCell_other _ _ _ _ (by first | (simp; done) | (simp; omega))).trans h.v0, (World.cell?_setCell_other _ _ _ _ (by first | (simp; done) | (simp; omega))).trans h.v1, (World.cell?_setCell_other _ _ _ _ (by first | (simp; done) | (simp; omega))).trans h.v2, ?_, h1, h.bl.setCell (by simp; omega) _⟩
  have e := (Array.getElem?_eq_some_iff.1 h.hm).2
  simp only [World.setCell]
  simp [Array.getElem?_modify, Array.getElem?_eq_getElem h.bl2, e]
end
def CoRel (B0 bm : Nat) (n : Int) (v : V3) (F : Nat → Int × Int) (w0 : World) (ax i : Value) (wr : World) : Prop := ∃ k : Nat, k ≤ 3 ∧ i = .int .i64 (k : Int) ∧ ax = .int .i64 (F k).1 ∧ Hid (CoW B0 bm n v (F k).2 w0 wr)
/-- What CellOf answers: the cell, and which error. -/
def cofE (n : Int) (v : V3) : Int := if inB n 1 8 then (if mostB v 1000 then (if v.1 == 0 && (v.2.1 == 0 && v.2.2 == 0) then 4 else 0) else 8) else 91
def cofV (n : Int) (v : V3) : Int := if cofE n v = 0 then cellV n v.1 v.2.1 v.2.2 else 0
theorem mostB_in {v : V3} (h : mostB v 1000 = true) : (-1000 ≤ v.1 ∧ v.1 ≤ 1000) ∧ (-1000 ≤ v.2.1 ∧ v.2.1 ≤ 1000) ∧ (-1000 ≤ v.2.2 ∧ v.2.2 ≤ 1000) := by
  unfold mostB outB at h
  simp only [List.any_cons, List.any_nil, Bool.or_false, Bool.not_eq_true', Bool.or_eq_false_iff, Bool.not_eq_false'] at h
  exact ⟨inB_true.1 h.1, inB_true.1 h.2.1, inB_true.1 h.2.2⟩
def CofT (n : Int) (v : V3) (w : World) (e : Ending) (w' : World) : Prop := e = .returned (.tuple #[.int .i64 (cofV n v), .int .i64 (cofE n v)]) ∧ Below w.heap.size w w'
set_option maxRecDepth 100000 in
set_option maxHeartbeats 4000000 in
theorem CellOf_ok (n a b c : Int) (w : World) (h1 : 1 ≤ n) (h8 : n ≤ 8) (ha : -1000 ≤ a ∧ a ≤ 1000) (hb : -1000 ≤ b ∧ b ≤ 1000) (hc : -1000 ≤ c ∧ c ≤ 1000) (hz : (a == 0 && (b == 0 && c == 0)) = false) (hmo : mostB (a, b, c) 1000 = true) :
    Calls Tryz.prog 26 #[.int .i64 n, v3 (a, b, c)] w fun e w' => e = .returned (.tuple #[.int .i64 (cellV n a b c), .int .i64 0]) ∧ Below w.heap.size w w' := by
  have HMO := Lib.hid (fun W => most_ (a, b, c) 1000 W (w64 (by omega) (by omega)))
  rw [hmo] at HMO
  obtain ⟨a1, a2⟩ := ha
  obtain ⟨b1, b2⟩ := hb
  obtain ⟨c1, c2⟩ := hc
  have bg : inB n 1 8 = true := inB_true.2 ⟨h1, h8⟩
  obtain ⟨F, hF⟩ : ∃ F : Nat → Int × Int, coF a b c = F := ⟨_, rfl⟩
  have HF := Lib.hid hF
  have F0 : F 0 = (0, 0) := by rw [← hF]; rfl
  clear hF hmo
  go_enter Tryz.func26, Tryz.ntmps26
  go_wp2_with (go_at_call 62; refine (skGrid_ _ _).mono ?_; rintro e w' ⟨rfl, rfl⟩; rw [bg])
  refine (HMO.out _).mono ?_
  rintro e w1 ⟨rfl, hb⟩
  obtain ⟨hcw, hfw⟩ := bcell hb
  have HB1 : Hid (Below w.heap.size w w1) := (show Below w.heap.size w _ from (by repeat (first | exact Below.refl _ _ | assumption | refine below_drewN ?_ _ | refine Below.drew ?_ | refine Below.setCell ?_ (by first | omega | (simp; done) | (simp; omega)) _ | refine Below.alloc ?_ (by first | omega | (simp; done) | (simp; omega)) _))).trans (hb.mono (by first | omega | (simp; done) | (simp; omega)))
  have hz1 := hb.size
  simp at hz1
  have p0 : w1.cell? ⟨w.heap.size, 0, none⟩ = some (.int .i64 n) := by rw [hcw _ _ (by first | (simp; done) | (simp; omega))]; simp [go_sem]
  have p1 : w1.cell? ⟨w.heap.size + 1, 0, none⟩ = some (.int .i64 a) := by rw [hcw _ _ (by first | (simp; done) | (simp; omega))]; simp [go_sem]
  have p2 : w1.cell? ⟨w.heap.size + 1, 1, none⟩ = some (.int .i64 b) := by rw [hcw _ _ (by first | (simp; done) | (simp; omega))]; simp [go_sem]
  have p3 : w1.cell? ⟨w.heap.size + 1, 2, none⟩ = some (.int .i64 c) := by rw [hcw _ _ (by first | (simp; done) | (simp; omega))]; simp [go_sem]
  have q1 : w1.cell? ⟨w.heap.size + 1 + 1, 0, none⟩ = some (.int .i64 a) := by rw [hcw _ _ (by first | (simp; done) | (simp; omega))]; simp [go_sem]
  have q2 : w1.cell? ⟨w.heap.size + 1 + 1, 1, none⟩ = some (.int .i64 b) := by rw [hcw _ _ (by first | (simp; done) | (simp; omega))]; simp [go_sem]
  have q3 : w1.cell? ⟨w.heap.size + 1 + 1, 2, none⟩ = some (.int .i64 c) := by rw [hcw _ _ (by first | (simp; done) | (simp; omega))]; simp [go_sem]
  have z0 : w.heap.size < w1.heap.size := by omega
  have z1 : w.heap.size + 1 < w1.heap.size := by omega
  have z2 : w.heap.size + 1 + 1 < w1.heap.size := by omega
  clear hb hcw hfw hz1
  have HCW : Hid (CoW w.heap.size w1.heap.size n (a, b, c) 0 w (w1.alloc (.cells #[.int .i64 0] 3))) := ⟨(World.cell?_alloc_past (w := w1) _ _ _ z0).trans p0, (World.cell?_alloc_past (w := w1) _ _ _ z1).trans p1, (World.cell?_alloc_past (w := w1) _ _ _ z1).trans p2, (World.cell?_alloc_past (w := w1) _ _ _ z1).trans p3, heap_alloc_new w1 _, z1, HB1.out.alloc (by omega) _⟩
  go_wp2_with fail
  obtain ⟨bm, hbm⟩ : ∃ b, w1.heap.size = b := ⟨_, rfl⟩
  rw [hbm] at HCW ⊢
  clear p0 p1 p2 p3 q1 q2 q3 hbm
  go_loopw [7, 28] (fun ax i wr => CoRel w.heap.size bm n (a, b, c) F w ax i wr) (fun _ i _ => 3 - (intOf i).toNat)
  case atStart => exact ⟨0, by decide, rfl, by rw [F0], by rw [F0]; exact HCW⟩
  case round =>
    obtain ⟨k, hk, rfl, rfl, HC⟩ := hrel
    by_cases h3 : k < 3
    · obtain rfl | rfl | rfl : k = 0 ∨ k = 1 ∨ k = 2 := by omega
      · obtain ⟨m, hm⟩ : ∃ m, (F 0).2 = m := ⟨_, rfl⟩
        have HS : Hid (F 1 = if m < max a (-a) then (0, max a (-a)) else F 0) := by show _ = _; rw [← hm, ← HF.out, coF_1]
        have HM := Lib.hid hm
        rw [hm] at HC
        have y0 := HC.out.m0
        have y1 := HC.out.fr
        have y2 := HC.out.bl2
        clear hm
        by_cases hgt : m < max a (-a)
        · go_wp2_with fail
          go_roundw
          case rel => exact ⟨1, by decide, by go_num, by rw [HS.out, if_pos hgt]; rfl, Lib.hid (by rw [HS.out, if_pos hgt]; exact HC.out.set _)⟩
          case measure => simp [intOf]
        · go_wp2_with fail
          go_roundw
          case rel => exact ⟨1, by decide, by go_num, by rw [HS.out, if_neg hgt], Lib.hid (by rw [HS.out, if_neg hgt, HM.out]; exact HC.out)⟩
          case measure => simp [intOf]
      · obtain ⟨m, hm⟩ : ∃ m, (F 1).2 = m := ⟨_, rfl⟩
        have HS : Hid (F 2 = if m < max b (-b) then (1, max b (-b)) else F 1) := by show _ = _; rw [← hm, ← HF.out, coF_2]
        have HM := Lib.hid hm
        rw [hm] at HC
        have y0 := HC.out.m0
        have y1 := HC.out.fr
        have y2 := HC.out.bl2
        clear hm
        by_cases hgt : m < max b (-b)
        · go_wp2_with fail
          go_roundw
          case rel => exact ⟨2, by decide, by go_num, by rw [HS.out, if_pos hgt]; rfl, Lib.hid (by rw [HS.out, if_pos hgt]; exact HC.out.set _)⟩
          case measure => simp [intOf]
        · go_wp2_with fail
          go_roundw
          case rel => exact ⟨2, by decide, by go_num, by rw [HS.out, if_neg hgt], Lib.hid (by rw [HS.out, if_neg hgt, HM.out]; exact HC.out)⟩
          case measure => simp [intOf]
      · obtain ⟨m, hm⟩ : ∃ m, (F 2).2 = m := ⟨_, rfl⟩
        have HS : Hid (F 3 = if m < max c (-c) then (2, max c (-c)) else F 2) := by show _ = _; rw [← hm, ← HF.out, coF_3]
        have HM := Lib.hid hm
        rw [hm] at HC
        have y0 := HC.out.m0
        have y1 := HC.out.fr
        have y2 := HC.out.bl2
        clear hm
        by_cases hgt : m < max c (-c)
        · go_wp2_with fail
          go_roundw
          case rel => exact ⟨3, by decide, by go_num, by rw [HS.out, if_pos hgt]; rfl, Lib.hid (by rw [HS.out, if_pos hgt]; exact HC.out.set _)⟩
          case measure => simp [intOf]
        · go_wp2_with fail
          go_roundw
          case rel => exact ⟨3, by decide, by go_num, by rw [HS.out, if_neg hgt], Lib.hid (by rw [HS.out, if_neg hgt, HM.out]; exact HC.out)⟩
          case measure => simp [intOf]
    · obtain rfl : k = 3 := by omega
      have h3' := HC.out.lt
      rcases coF_end n a b c with ⟨e1, e2, e3, e4⟩ | ⟨e1, e2, e3, e4⟩ | ⟨e1, e2, e3, e4⟩
      · rw [HF.out] at e1
        have hm0 : 0 < ab a ∧ ab a ≤ 1000 := by
          have q1 := ab_le a
          have q2 := ab_le b
          have q3 := ab_le c
          refine ⟨?_, by unfold ab; omega⟩
          rcases Int.lt_or_le 0 (ab a) with h | h
          · exact h
          · exfalso
            have : a = 0 ∧ b = 0 ∧ c = 0 := by omega
            obtain ⟨rfl, rfl, rfl⟩ := this
            cases hz
        have o1 : -ab a ≤ b ∧ b ≤ ab a := by have := ab_le b; omega
        have o2 : -ab a ≤ c ∧ c ≤ ab a := by have := ab_le c; omega
        have m2 : ab a = max a (-a) := rfl
        have HC2 : Hid (CoW w.heap.size bm n (a, b, c) (ab a) w wr) := by have := HC.out; rw [e1] at this; exact this
        rw [e1]
        simp only []
        obtain ⟨m, hm⟩ : ∃ m, ab a = m := ⟨_, rfl⟩
        rw [hm] at e2 hm0 o1 o2 HC2
        obtain ⟨hm0, hm1⟩ := hm0
        obtain ⟨p1, p2⟩ := pl_in (n := n) (m := m) (x := b) h1 hm0 o1.1
        obtain ⟨p3, p4⟩ := pl_in (n := n) (m := m) (x := c) h1 hm0 o2.1
        have y0 := HC2.out.m0
        have y2 := HC2.out.bl2
        have y3 := HC2.out.n0
        have x0 := HC2.out.v0
        have x1 := HC2.out.v1
        have x2 := HC2.out.v2
        simp only at x0 x1 x2
        have zw : w.heap.size < wr.heap.size := by omega
        have zv : w.heap.size + 1 < wr.heap.size := by omega
        have N0 := Lib.hid ((World.cell?_alloc_past (w := wr) (.cells #[.int .i64 1, .int .i64 2] 50) _ _ zw).trans y3)
        have M0 := Lib.hid ((World.cell?_alloc_past (w := wr) (.cells #[.int .i64 1, .int .i64 2] 50) _ _ y2).trans y0)
        have X0 := Lib.hid ((World.cell?_alloc_past (w := wr) (.cells #[.int .i64 1, .int .i64 2] 50) _ _ zv).trans x0)
        have X1 := Lib.hid ((World.cell?_alloc_past (w := wr) (.cells #[.int .i64 1, .int .i64 2] 50) _ _ zv).trans x1)
        have X2 := Lib.hid ((World.cell?_alloc_past (w := wr) (.cells #[.int .i64 1, .int .i64 2] 50) _ _ zv).trans x2)
        have G0 : Hid ((wr.alloc (.cells #[.int .i64 1, .int .i64 2] 50)).cell? ⟨wr.heap.size, 0, none⟩ = some (.int .i64 1)) := by show _ = _; simp [go_sem]
        have G1 : Hid ((wr.alloc (.cells #[.int .i64 1, .int .i64 2] 50)).cell? ⟨wr.heap.size, 1, none⟩ = some (.int .i64 2)) := by show _ = _; simp [go_sem]
        have HQ : Hid (Below w.heap.size w (wr.alloc (.cells #[.int .i64 1, .int .i64 2] 50))) := HC2.out.bl.alloc (by omega) _
        have hqz : (wr.alloc (.cells #[.int .i64 1, .int .i64 2] 50)).heap.size = wr.heap.size + 1 := by simp
        obtain ⟨wq, hwq⟩ : ∃ wq, wr.alloc (.cells #[.int .i64 1, .int .i64 2] 50) = wq := ⟨_, rfl⟩
        have HWQ := Lib.hid hwq
        rw [hwq] at N0 M0 X0 X1 X2 G0 G1 HQ hqz
        have s1 : w.heap.size < wq.heap.size := by omega
        have s2 : w.heap.size + 1 < wq.heap.size := by omega
        have s3 : bm < wq.heap.size := by omega
        have s4 : wr.heap.size < wq.heap.size := by omega
        clear hwq hqz
        have HP1 := Lib.hid (fun z : BW wq => placeC_ n m b w.heap.size bm z.w h1 h8 hm0 hm1 o1.1 o1.2 (Nat.lt_of_lt_of_le s1 z.below.size) (Nat.lt_of_lt_of_le s3 z.below.size) ((z.below.cell (p := ⟨w.heap.size, 0, none⟩) s1).trans N0.out) ((z.below.cell (p := ⟨bm, 0, none⟩) s3).trans M0.out))
        have HP2 := Lib.hid (fun z : BW wq => placeC_ n m c w.heap.size bm z.w h1 h8 hm0 hm1 o2.1 o2.2 (Nat.lt_of_lt_of_le s1 z.below.size) (Nat.lt_of_lt_of_le s3 z.below.size) ((z.below.cell (p := ⟨w.heap.size, 0, none⟩) s1).trans N0.out) ((z.below.cell (p := ⟨bm, 0, none⟩) s3).trans M0.out))
        obtain ⟨P, hP⟩ : ∃ P, pl n m b = P := ⟨_, rfl⟩
        obtain ⟨Q, hQ⟩ : ∃ Q, pl n m c = Q := ⟨_, rfl⟩
        rw [hP] at e2 p1 p2 HP1
        rw [hQ] at e2 p3 p4 HP2
        clear hP hQ e1 hm m2 e3 e4
        by_cases hs : a < 0
        · have hng : ng a = 1 := by unfold ng; omega
          rw [hng] at e2
          obtain ⟨K, hK⟩ : ∃ K, (1 * n + P) * n = K := ⟨_, rfl⟩
          have HE : Hid (cellV n a b c = K + Q) := by show _ = _; rw [e2, ← hK]; rfl
          have k2 : 0 ≤ K ∧ K ≤ 384 := by
            have h5 := Int.mul_le_mul (show 1 * n + P ≤ 48 by omega) h8 (by omega) (by omega)
            have h6 : 0 ≤ (1 * n + P) * n := Int.mul_nonneg (by omega) (by omega)
            omega
          obtain ⟨k3, k4⟩ := k2
          have k1 : wrap64 ((n + P) * n) = K := by
            rw [show (n + P) * n = K from by rw [← hK, Int.one_mul]]
            exact w64 (by omega) (by omega)
          clear hK
          clear hng e2
          go_wp2_with fail
          rw [HWQ.out]
          clear y0 y2 y3 x0 x1 x2 zw zv
          have y0 := N0.out
          have x0 := X0.out
          have x1 := X1.out
          have x2 := X2.out
          have g0 := G0.out
          have g1 := G1.out
          refine wp_region_bw2 (by kernel_rfl) (by kernel_rfl) (fun hbwc => ?_)
          repeat (go_big_quiet_step ((first | (with_reducible exact bwCall (HP1.out _)) | (with_reducible exact bwCall (HP2.out _)))))
          refine wpQuiet_nil ?_
          clear hbwc
          intro w9 hb
          have HW9 := Lib.hid (HQ.out.trans (hb.mono (by omega)))
          clear hb k1 y0 x0 x1 x2 g0 g1
          go_wp2_with fail
          go_ret2
          exact ⟨by rw [HE.out]; rfl, HW9.out⟩
        · have hng : ng a = 0 := by unfold ng; omega
          rw [hng] at e2
          obtain ⟨K, hK⟩ : ∃ K, (0 * n + P) * n = K := ⟨_, rfl⟩
          have HE : Hid (cellV n a b c = K + Q) := by show _ = _; rw [e2, ← hK]; rfl
          have k2 : 0 ≤ K ∧ K ≤ 384 := by
            have h5 := Int.mul_le_mul (show 0 * n + P ≤ 48 by omega) h8 (by omega) (by omega)
            have h6 : 0 ≤ (0 * n + P) * n := Int.mul_nonneg (by omega) (by omega)
            omega
          obtain ⟨k3, k4⟩ := k2
          have k1 : wrap64 (P * n) = K := by
            rw [show P * n = K from by rw [← hK, Int.zero_mul, Int.zero_add]]
            exact w64 (by omega) (by omega)
          clear hK
          clear hng e2
          go_wp2_with fail
          rw [HWQ.out]
          clear y0 y2 y3 x0 x1 x2 zw zv
          have y0 := N0.out
          have x0 := X0.out
          have x1 := X1.out
          have x2 := X2.out
          have g0 := G0.out
          have g1 := G1.out
          refine wp_region_bw2 (by kernel_rfl) (by kernel_rfl) (fun hbwc => ?_)
          repeat (go_big_quiet_step ((first | (with_reducible exact bwCall (HP1.out _)) | (with_reducible exact bwCall (HP2.out _)))))
          refine wpQuiet_nil ?_
          clear hbwc
          intro w9 hb
          have HW9 := Lib.hid (HQ.out.trans (hb.mono (by omega)))
          clear hb k1 y0 x0 x1 x2 g0 g1
          go_wp2_with fail
          go_ret2
          exact ⟨by rw [HE.out]; rfl, HW9.out⟩
      · rw [HF.out] at e1
        have hm0 : 0 < ab b ∧ ab b ≤ 1000 := by
          have q1 := ab_le a
          have q2 := ab_le b
          have q3 := ab_le c
          refine ⟨?_, by unfold ab; omega⟩
          rcases Int.lt_or_le 0 (ab b) with h | h
          · exact h
          · exfalso
            have : a = 0 ∧ b = 0 ∧ c = 0 := by omega
            obtain ⟨rfl, rfl, rfl⟩ := this
            cases hz
        have o1 : -ab b ≤ a ∧ a ≤ ab b := by have := ab_le a; omega
        have o2 : -ab b ≤ c ∧ c ≤ ab b := by have := ab_le c; omega
        have m2 : ab b = max b (-b) := rfl
        have HC2 : Hid (CoW w.heap.size bm n (a, b, c) (ab b) w wr) := by have := HC.out; rw [e1] at this; exact this
        rw [e1]
        simp only []
        obtain ⟨m, hm⟩ : ∃ m, ab b = m := ⟨_, rfl⟩
        rw [hm] at e2 hm0 o1 o2 HC2
        obtain ⟨hm0, hm1⟩ := hm0
        obtain ⟨p1, p2⟩ := pl_in (n := n) (m := m) (x := a) h1 hm0 o1.1
        obtain ⟨p3, p4⟩ := pl_in (n := n) (m := m) (x := c) h1 hm0 o2.1
        have y0 := HC2.out.m0
        have y2 := HC2.out.bl2
        have y3 := HC2.out.n0
        have x0 := HC2.out.v0
        have x1 := HC2.out.v1
        have x2 := HC2.out.v2
        simp only at x0 x1 x2
        have zw : w.heap.size < wr.heap.size := by omega
        have zv : w.heap.size + 1 < wr.heap.size := by omega
        have N0 := Lib.hid ((World.cell?_alloc_past (w := wr) (.cells #[.int .i64 0, .int .i64 2] 50) _ _ zw).trans y3)
        have M0 := Lib.hid ((World.cell?_alloc_past (w := wr) (.cells #[.int .i64 0, .int .i64 2] 50) _ _ y2).trans y0)
        have X0 := Lib.hid ((World.cell?_alloc_past (w := wr) (.cells #[.int .i64 0, .int .i64 2] 50) _ _ zv).trans x0)
        have X1 := Lib.hid ((World.cell?_alloc_past (w := wr) (.cells #[.int .i64 0, .int .i64 2] 50) _ _ zv).trans x1)
        have X2 := Lib.hid ((World.cell?_alloc_past (w := wr) (.cells #[.int .i64 0, .int .i64 2] 50) _ _ zv).trans x2)
        have G0 : Hid ((wr.alloc (.cells #[.int .i64 0, .int .i64 2] 50)).cell? ⟨wr.heap.size, 0, none⟩ = some (.int .i64 0)) := by show _ = _; simp [go_sem]
        have G1 : Hid ((wr.alloc (.cells #[.int .i64 0, .int .i64 2] 50)).cell? ⟨wr.heap.size, 1, none⟩ = some (.int .i64 2)) := by show _ = _; simp [go_sem]
        have HQ : Hid (Below w.heap.size w (wr.alloc (.cells #[.int .i64 0, .int .i64 2] 50))) := HC2.out.bl.alloc (by omega) _
        have hqz : (wr.alloc (.cells #[.int .i64 0, .int .i64 2] 50)).heap.size = wr.heap.size + 1 := by simp
        obtain ⟨wq, hwq⟩ : ∃ wq, wr.alloc (.cells #[.int .i64 0, .int .i64 2] 50) = wq := ⟨_, rfl⟩
        have HWQ := Lib.hid hwq
        rw [hwq] at N0 M0 X0 X1 X2 G0 G1 HQ hqz
        have s1 : w.heap.size < wq.heap.size := by omega
        have s2 : w.heap.size + 1 < wq.heap.size := by omega
        have s3 : bm < wq.heap.size := by omega
        have s4 : wr.heap.size < wq.heap.size := by omega
        clear hwq hqz
        have HP1 := Lib.hid (fun z : BW wq => placeC_ n m a w.heap.size bm z.w h1 h8 hm0 hm1 o1.1 o1.2 (Nat.lt_of_lt_of_le s1 z.below.size) (Nat.lt_of_lt_of_le s3 z.below.size) ((z.below.cell (p := ⟨w.heap.size, 0, none⟩) s1).trans N0.out) ((z.below.cell (p := ⟨bm, 0, none⟩) s3).trans M0.out))
        have HP2 := Lib.hid (fun z : BW wq => placeC_ n m c w.heap.size bm z.w h1 h8 hm0 hm1 o2.1 o2.2 (Nat.lt_of_lt_of_le s1 z.below.size) (Nat.lt_of_lt_of_le s3 z.below.size) ((z.below.cell (p := ⟨w.heap.size, 0, none⟩) s1).trans N0.out) ((z.below.cell (p := ⟨bm, 0, none⟩) s3).trans M0.out))
        obtain ⟨P, hP⟩ : ∃ P, pl n m a = P := ⟨_, rfl⟩
        obtain ⟨Q, hQ⟩ : ∃ Q, pl n m c = Q := ⟨_, rfl⟩
        rw [hP] at e2 p1 p2 HP1
        rw [hQ] at e2 p3 p4 HP2
        clear hP hQ e1 hm m2 e3 e4
        by_cases hs : b < 0
        · have hng : ng b = 1 := by unfold ng; omega
          rw [hng] at e2
          obtain ⟨K, hK⟩ : ∃ K, (3 * n + P) * n = K := ⟨_, rfl⟩
          have HE : Hid (cellV n a b c = K + Q) := by show _ = _; rw [e2, ← hK]; rfl
          have k2 : 0 ≤ K ∧ K ≤ 384 := by
            have h5 := Int.mul_le_mul (show 3 * n + P ≤ 48 by omega) h8 (by omega) (by omega)
            have h6 : 0 ≤ (3 * n + P) * n := Int.mul_nonneg (by omega) (by omega)
            omega
          obtain ⟨k3, k4⟩ := k2
          have k1 : wrap64 ((3 * n + P) * n) = K := by
            rw [show (3 * n + P) * n = K from by rw [← hK]]
            exact w64 (by omega) (by omega)
          clear hK
          clear hng e2
          go_wp2_with fail
          rw [HWQ.out]
          clear y0 y2 y3 x0 x1 x2 zw zv
          have y0 := N0.out
          have x0 := X0.out
          have x1 := X1.out
          have x2 := X2.out
          have g0 := G0.out
          have g1 := G1.out
          refine wp_region_bw2 (by kernel_rfl) (by kernel_rfl) (fun hbwc => ?_)
          repeat (go_big_quiet_step ((first | (with_reducible exact bwCall (HP1.out _)) | (with_reducible exact bwCall (HP2.out _)))))
          refine wpQuiet_nil ?_
          clear hbwc
          intro w9 hb
          have HW9 := Lib.hid (HQ.out.trans (hb.mono (by omega)))
          clear hb k1 y0 x0 x1 x2 g0 g1
          go_wp2_with fail
          go_ret2
          exact ⟨by rw [HE.out]; rfl, HW9.out⟩
        · have hng : ng b = 0 := by unfold ng; omega
          rw [hng] at e2
          obtain ⟨K, hK⟩ : ∃ K, (2 * n + P) * n = K := ⟨_, rfl⟩
          have HE : Hid (cellV n a b c = K + Q) := by show _ = _; rw [e2, ← hK]; rfl
          have k2 : 0 ≤ K ∧ K ≤ 384 := by
            have h5 := Int.mul_le_mul (show 2 * n + P ≤ 48 by omega) h8 (by omega) (by omega)
            have h6 : 0 ≤ (2 * n + P) * n := Int.mul_nonneg (by omega) (by omega)
            omega
          obtain ⟨k3, k4⟩ := k2
          have k1 : wrap64 ((2 * n + P) * n) = K := by
            rw [show (2 * n + P) * n = K from by rw [← hK]]
            exact w64 (by omega) (by omega)
          clear hK
          clear hng e2
          go_wp2_with fail
          rw [HWQ.out]
          clear y0 y2 y3 x0 x1 x2 zw zv
          have y0 := N0.out
          have x0 := X0.out
          have x1 := X1.out
          have x2 := X2.out
          have g0 := G0.out
          have g1 := G1.out
          refine wp_region_bw2 (by kernel_rfl) (by kernel_rfl) (fun hbwc => ?_)
          repeat (go_big_quiet_step ((first | (with_reducible exact bwCall (HP1.out _)) | (with_reducible exact bwCall (HP2.out _)))))
          refine wpQuiet_nil ?_
          clear hbwc
          intro w9 hb
          have HW9 := Lib.hid (HQ.out.trans (hb.mono (by omega)))
          clear hb k1 y0 x0 x1 x2 g0 g1
          go_wp2_with fail
          go_ret2
          exact ⟨by rw [HE.out]; rfl, HW9.out⟩
      · rw [HF.out] at e1
        have hm0 : 0 < ab c ∧ ab c ≤ 1000 := by
          have q1 := ab_le a
          have q2 := ab_le b
          have q3 := ab_le c
          refine ⟨?_, by unfold ab; omega⟩
          rcases Int.lt_or_le 0 (ab c) with h | h
          · exact h
          · exfalso
            have : a = 0 ∧ b = 0 ∧ c = 0 := by omega
            obtain ⟨rfl, rfl, rfl⟩ := this
            cases hz
        have o1 : -ab c ≤ a ∧ a ≤ ab c := by have := ab_le a; omega
        have o2 : -ab c ≤ b ∧ b ≤ ab c := by have := ab_le b; omega
        have m2 : ab c = max c (-c) := rfl
        have HC2 : Hid (CoW w.heap.size bm n (a, b, c) (ab c) w wr) := by have := HC.out; rw [e1] at this; exact this
        rw [e1]
        simp only []
        obtain ⟨m, hm⟩ : ∃ m, ab c = m := ⟨_, rfl⟩
        rw [hm] at e2 hm0 o1 o2 HC2
        obtain ⟨hm0, hm1⟩ := hm0
        obtain ⟨p1, p2⟩ := pl_in (n := n) (m := m) (x := a) h1 hm0 o1.1
        obtain ⟨p3, p4⟩ := pl_in (n := n) (m := m) (x := b) h1 hm0 o2.1
        have y0 := HC2.out.m0
        have y2 := HC2.out.bl2
        have y3 := HC2.out.n0
        have x0 := HC2.out.v0
        have x1 := HC2.out.v1
        have x2 := HC2.out.v2
        simp only at x0 x1 x2
        have zw : w.heap.size < wr.heap.size := by omega
        have zv : w.heap.size + 1 < wr.heap.size := by omega
        have N0 := Lib.hid ((World.cell?_alloc_past (w := wr) (.cells #[.int .i64 0, .int .i64 1] 50) _ _ zw).trans y3)
        have M0 := Lib.hid ((World.cell?_alloc_past (w := wr) (.cells #[.int .i64 0, .int .i64 1] 50) _ _ y2).trans y0)
        have X0 := Lib.hid ((World.cell?_alloc_past (w := wr) (.cells #[.int .i64 0, .int .i64 1] 50) _ _ zv).trans x0)
        have X1 := Lib.hid ((World.cell?_alloc_past (w := wr) (.cells #[.int .i64 0, .int .i64 1] 50) _ _ zv).trans x1)
        have X2 := Lib.hid ((World.cell?_alloc_past (w := wr) (.cells #[.int .i64 0, .int .i64 1] 50) _ _ zv).trans x2)
        have G0 : Hid ((wr.alloc (.cells #[.int .i64 0, .int .i64 1] 50)).cell? ⟨wr.heap.size, 0, none⟩ = some (.int .i64 0)) := by show _ = _; simp [go_sem]
        have G1 : Hid ((wr.alloc (.cells #[.int .i64 0, .int .i64 1] 50)).cell? ⟨wr.heap.size, 1, none⟩ = some (.int .i64 1)) := by show _ = _; simp [go_sem]
        have HQ : Hid (Below w.heap.size w (wr.alloc (.cells #[.int .i64 0, .int .i64 1] 50))) := HC2.out.bl.alloc (by omega) _
        have hqz : (wr.alloc (.cells #[.int .i64 0, .int .i64 1] 50)).heap.size = wr.heap.size + 1 := by simp
        obtain ⟨wq, hwq⟩ : ∃ wq, wr.alloc (.cells #[.int .i64 0, .int .i64 1] 50) = wq := ⟨_, rfl⟩
        have HWQ := Lib.hid hwq
        rw [hwq] at N0 M0 X0 X1 X2 G0 G1 HQ hqz
        have s1 : w.heap.size < wq.heap.size := by omega
        have s2 : w.heap.size + 1 < wq.heap.size := by omega
        have s3 : bm < wq.heap.size := by omega
        have s4 : wr.heap.size < wq.heap.size := by omega
        clear hwq hqz
        have HP1 := Lib.hid (fun z : BW wq => placeC_ n m a w.heap.size bm z.w h1 h8 hm0 hm1 o1.1 o1.2 (Nat.lt_of_lt_of_le s1 z.below.size) (Nat.lt_of_lt_of_le s3 z.below.size) ((z.below.cell (p := ⟨w.heap.size, 0, none⟩) s1).trans N0.out) ((z.below.cell (p := ⟨bm, 0, none⟩) s3).trans M0.out))
        have HP2 := Lib.hid (fun z : BW wq => placeC_ n m b w.heap.size bm z.w h1 h8 hm0 hm1 o2.1 o2.2 (Nat.lt_of_lt_of_le s1 z.below.size) (Nat.lt_of_lt_of_le s3 z.below.size) ((z.below.cell (p := ⟨w.heap.size, 0, none⟩) s1).trans N0.out) ((z.below.cell (p := ⟨bm, 0, none⟩) s3).trans M0.out))
        obtain ⟨P, hP⟩ : ∃ P, pl n m a = P := ⟨_, rfl⟩
        obtain ⟨Q, hQ⟩ : ∃ Q, pl n m b = Q := ⟨_, rfl⟩
        rw [hP] at e2 p1 p2 HP1
        rw [hQ] at e2 p3 p4 HP2
        clear hP hQ e1 hm m2 e3 e4
        by_cases hs : c < 0
        · have hng : ng c = 1 := by unfold ng; omega
          rw [hng] at e2
          obtain ⟨K, hK⟩ : ∃ K, (5 * n + P) * n = K := ⟨_, rfl⟩
          have HE : Hid (cellV n a b c = K + Q) := by show _ = _; rw [e2, ← hK]; rfl
          have k2 : 0 ≤ K ∧ K ≤ 384 := by
            have h5 := Int.mul_le_mul (show 5 * n + P ≤ 48 by omega) h8 (by omega) (by omega)
            have h6 : 0 ≤ (5 * n + P) * n := Int.mul_nonneg (by omega) (by omega)
            omega
          obtain ⟨k3, k4⟩ := k2
          have k1 : wrap64 ((5 * n + P) * n) = K := by
            rw [show (5 * n + P) * n = K from by rw [← hK]]
            exact w64 (by omega) (by omega)
          clear hK
          clear hng e2
          go_wp2_with fail
          rw [HWQ.out]
          clear y0 y2 y3 x0 x1 x2 zw zv
          have y0 := N0.out
          have x0 := X0.out
          have x1 := X1.out
          have x2 := X2.out
          have g0 := G0.out
          have g1 := G1.out
          refine wp_region_bw2 (by kernel_rfl) (by kernel_rfl) (fun hbwc => ?_)
          repeat (go_big_quiet_step ((first | (with_reducible exact bwCall (HP1.out _)) | (with_reducible exact bwCall (HP2.out _)))))
          refine wpQuiet_nil ?_
          clear hbwc
          intro w9 hb
          have HW9 := Lib.hid (HQ.out.trans (hb.mono (by omega)))
          clear hb k1 y0 x0 x1 x2 g0 g1
          go_wp2_with fail
          go_ret2
          exact ⟨by rw [HE.out]; rfl, HW9.out⟩
        · have hng : ng c = 0 := by unfold ng; omega
          rw [hng] at e2
          obtain ⟨K, hK⟩ : ∃ K, (4 * n + P) * n = K := ⟨_, rfl⟩
          have HE : Hid (cellV n a b c = K + Q) := by show _ = _; rw [e2, ← hK]; rfl
          have k2 : 0 ≤ K ∧ K ≤ 384 := by
            have h5 := Int.mul_le_mul (show 4 * n + P ≤ 48 by omega) h8 (by omega) (by omega)
            have h6 : 0 ≤ (4 * n + P) * n := Int.mul_nonneg (by omega) (by omega)
            omega
          obtain ⟨k3, k4⟩ := k2
          have k1 : wrap64 ((4 * n + P) * n) = K := by
            rw [show (4 * n + P) * n = K from by rw [← hK]]
            exact w64 (by omega) (by omega)
          clear hK
          clear hng e2
          go_wp2_with fail
          rw [HWQ.out]
          clear y0 y2 y3 x0 x1 x2 zw zv
          have y0 := N0.out
          have x0 := X0.out
          have x1 := X1.out
          have x2 := X2.out
          have g0 := G0.out
          have g1 := G1.out
          refine wp_region_bw2 (by kernel_rfl) (by kernel_rfl) (fun hbwc => ?_)
          repeat (go_big_quiet_step ((first | (with_reducible exact bwCall (HP1.out _)) | (with_reducible exact bwCall (HP2.out _)))))
          refine wpQuiet_nil ?_
          clear hbwc
          intro w9 hb
          have HW9 := Lib.hid (HQ.out.trans (hb.mono (by omega)))
          clear hb k1 y0 x0 x1 x2 g0 g1
          go_wp2_with fail
          go_ret2
          exact ⟨by rw [HE.out]; rfl, HW9.out⟩
end Go.Proofs.YtcclfhdglhbpcaaGreatDoor

/-
  CellOf, for all inputs.
-/
namespace Go.Proofs.YtcclfhdglhbpcaaGreatDoor
open Go.RowKit Al Cell9
attribute [local go_sem ↓] vec_eq

set_option maxRecDepth 100000 in
set_option maxHeartbeats 4000000 in
theorem CellOf_ (n : Int) (v : V3) (w : World) : Calls Tryz.prog 26 #[.int .i64 n, v3 v] w (CofT n v w) := by
  obtain ⟨a, b, c⟩ := v
  cases bg : inB n 1 8 with
  | false =>
    have e1 : cofE n (a, b, c) = 91 := by unfold cofE; rw [bg]; rfl
    have e2 : cofV n (a, b, c) = 0 := by unfold cofV; rw [e1]; rfl
    have e : CofT n (a, b, c) w = fun e w' => e = .returned (.tuple #[.int .i64 0, .int .i64 91]) ∧ Below w.heap.size w w' := by funext e w'; unfold CofT; rw [e1, e2]
    rw [e]
    clear e e1 e2
    go_enter Tryz.func26, Tryz.ntmps26
    go_wp2_with (go_at_call 62; refine (skGrid_ _ _).mono ?_; rintro e w' ⟨rfl, rfl⟩; rw [bg])
    go_ret2
    exact ⟨rfl, (by repeat (first | exact Below.refl _ _ | assumption | refine below_drewN ?_ _ | refine Below.drew ?_ | refine Below.setCell ?_ (by first | omega | (simp; done) | (simp; omega)) _ | refine Below.alloc ?_ (by first | omega | (simp; done) | (simp; omega)) _))⟩
  | true =>
    have hg := inB_true.1 bg
    cases hmo : mostB (a, b, c) 1000 with
    | false =>
      have e1 : cofE n (a, b, c) = 8 := by unfold cofE; rw [bg, hmo]; rfl
      have e2 : cofV n (a, b, c) = 0 := by unfold cofV; rw [e1]; rfl
      have e : CofT n (a, b, c) w = fun e w' => e = .returned (.tuple #[.int .i64 0, .int .i64 8]) ∧ Below w.heap.size w w' := by funext e w'; unfold CofT; rw [e1, e2]
      rw [e]
      have HMO := Lib.hid (fun W => most_ (a, b, c) 1000 W (w64 (by omega) (by omega)))
      rw [hmo] at HMO
      clear e e1 e2 hmo hg
      go_enter Tryz.func26, Tryz.ntmps26
      go_wp2_with (go_at_call 62; refine (skGrid_ _ _).mono ?_; rintro e w' ⟨rfl, rfl⟩; rw [bg])
      refine (HMO.out _).mono ?_
      rintro e w1 ⟨rfl, hb⟩
      have HB1 : Hid (Below w.heap.size w w1) := (show Below w.heap.size w _ from (by repeat (first | exact Below.refl _ _ | assumption | refine below_drewN ?_ _ | refine Below.drew ?_ | refine Below.setCell ?_ (by first | omega | (simp; done) | (simp; omega)) _ | refine Below.alloc ?_ (by first | omega | (simp; done) | (simp; omega)) _))).trans (hb.mono (by first | omega | (simp; done) | (simp; omega)))
      clear hb
      go_wp2_with fail
      go_ret2
      exact ⟨rfl, HB1.out⟩
    | true =>
      cases hz : (a == 0 && (b == 0 && c == 0)) with
      | true =>
        have e1 : cofE n (a, b, c) = 4 := by unfold cofE; rw [bg, hmo]; simp only [hz]; rfl
        have e2 : cofV n (a, b, c) = 0 := by unfold cofV; rw [e1]; rfl
        have e : CofT n (a, b, c) w = fun e w' => e = .returned (.tuple #[.int .i64 0, .int .i64 4]) ∧ Below w.heap.size w w' := by funext e w'; unfold CofT; rw [e1, e2]
        rw [e]
        have HMO := Lib.hid (fun W => most_ (a, b, c) 1000 W (w64 (by omega) (by omega)))
        rw [hmo] at HMO
        clear e e1 e2 hmo hg
        go_enter Tryz.func26, Tryz.ntmps26
        go_wp2_with (go_at_call 62; refine (skGrid_ _ _).mono ?_; rintro e w' ⟨rfl, rfl⟩; rw [bg])
        refine (HMO.out _).mono ?_
        rintro e w1 ⟨rfl, hb⟩
        obtain ⟨hcw, hfw⟩ := bcell hb
        have HB1 : Hid (Below w.heap.size w w1) := (show Below w.heap.size w _ from (by repeat (first | exact Below.refl _ _ | assumption | refine below_drewN ?_ _ | refine Below.drew ?_ | refine Below.setCell ?_ (by first | omega | (simp; done) | (simp; omega)) _ | refine Below.alloc ?_ (by first | omega | (simp; done) | (simp; omega)) _))).trans (hb.mono (by first | omega | (simp; done) | (simp; omega)))
        have hz1 := hb.size
        simp at hz1
        have q1 : w1.cell? ⟨w.heap.size + 1 + 1, 0, none⟩ = some (.int .i64 a) := by rw [hcw _ _ (by first | (simp; done) | (simp; omega))]; simp [go_sem]
        have q2 : w1.cell? ⟨w.heap.size + 1 + 1, 1, none⟩ = some (.int .i64 b) := by rw [hcw _ _ (by first | (simp; done) | (simp; omega))]; simp [go_sem]
        have q3 : w1.cell? ⟨w.heap.size + 1 + 1, 2, none⟩ = some (.int .i64 c) := by rw [hcw _ _ (by first | (simp; done) | (simp; omega))]; simp [go_sem]
        clear hb hcw hfw hz1
        go_wp2_with fail
        go_ret2
        exact ⟨rfl, HB1.out⟩
      | false =>
        have e1 : cofE n (a, b, c) = 0 := by unfold cofE; rw [bg, hmo]; simp only [hz]; rfl
        have e2 : cofV n (a, b, c) = cellV n a b c := by unfold cofV; rw [e1]; rfl
        obtain ⟨i1, i2, i3⟩ := mostB_in hmo
        refine (CellOf_ok n a b c w hg.1 hg.2 i1 i2 i3 hz hmo).mono ?_
        rintro e w' ⟨he, hb⟩
        exact ⟨by rw [he, e1, e2], hb⟩
end Go.Proofs.YtcclfhdglhbpcaaGreatDoor
