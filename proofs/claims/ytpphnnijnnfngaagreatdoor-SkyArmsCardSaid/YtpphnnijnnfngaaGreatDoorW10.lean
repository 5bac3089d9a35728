/-
  The walks of the search's small functions: within, CheckTriggers.
-/
import Derived.Test.YtpphnnijnnfngaaGreatDoorW01
namespace Go.Proofs.YtpphnnijnnfngaaGreatDoor
open Go.RowKit Al

/-- Triggers: when, how loud, of which template. -/
abbrev Trg := Int × Int × Int
/-- The cells of triggers. -/
def trCells (l : List Trg) : List Value := l.flatMap fun t => [.int .i64 t.1, .int .i64 t.2.1, .int .i64 t.2.2]
theorem trCells_len (l : List Trg) : (trCells l).length = l.length * 3 := by
  induction l with
  | nil => rfl
  | cons a l ih => simp only [trCells, List.flatMap_cons, List.length_append, List.length_cons, List.length_nil] at ih ⊢; omega
theorem trCells_at {l : List Trg} {k : Nat} (h : k < l.length) : (trCells l)[k * 3]? = some (.int .i64 l[k].1) ∧ (trCells l)[k * 3 + 1]? = some (.int .i64 l[k].2.1) ∧ (trCells l)[k * 3 + 2]? = some (.int .i64 l[k].2.2) := by
  induction l generalizing k with
  | nil => exact absurd h (by simp)
  | cons a l ih =>
    cases k with
    | zero => exact ⟨rfl, rfl, rfl⟩
    | succ k =>
      have := ih (k := k) (by simpa using h)
      simp only [trCells, List.flatMap_cons, List.getElem_cons_succ] at this ⊢
      rw [show (k + 1) * 3 = k * 3 + 3 by omega, show k * 3 + 3 + 1 = (k * 3 + 1) + 3 by omega, show k * 3 + 3 + 2 = (k * 3 + 2) + 3 by omega]
      exact this
/-- The cells of a trigger of a slice. -/
theorem Sl.tr_at {w : World} {B n c : Nat} {A : Option Addr} {l : List Trg} (h : Sl w B 3 A n c (trCells l)) {k : Nat} (hk : k < l.length) :
    ∃ b off, A = some ⟨b, off, none⟩ ∧ b < B ∧ w.cell? ⟨b, off + k * 3, none⟩ = some (.int .i64 l[k].1) ∧ w.cell? ⟨b, off + k * 3 + 1, none⟩ = some (.int .i64 l[k].2.1) ∧ w.cell? ⟨b, off + k * 3 + 2, none⟩ = some (.int .i64 l[k].2.2) := by
  have hn : n = l.length := by have := h.len; rw [trCells_len] at this; omega
  obtain ⟨b, off, e, hb, hc⟩ := h.at_ (by omega)
  obtain ⟨k1, k2, k3⟩ := trCells_at hk
  exact ⟨b, off, e, hb, hc _ _ k1, by rw [Nat.add_assoc]; exact hc _ _ k2, by rw [Nat.add_assoc]; exact hc _ _ k3⟩

theorem tr80 {p : Prop} (h : (80 : Int) = 0) : p := by cases h
/-- What CheckTriggers says, as far as it is needed. -/
def TrSays (l : List Trg) (w : World) (e : Ending) (w' : World) : Prop := ∃ k : Int, e = .returned (.int .i64 k) ∧ (k = 0 → l.length ≤ 256) ∧ Below w.heap.size w w'
end Go.Proofs.YtpphnnijnnfngaaGreatDoor

/-
  The walks of the sky's small functions: dot, above, grid.
-/
namespace Go.Proofs.YtpphnnijnnfngaaGreatDoor
open Go.RowKit Al

/-- Three numbers. -/
abbrev V3 := Int × Int × Int
@[reducible] def v3 (v : V3) : Value := .agg #[.int .i64 v.1, .int .i64 v.2.1, .int .i64 v.2.2]
/-- What dot computes, in numbers of 64 bits. -/
def dotW (v u : V3) : Int := wrap64 (wrap64 (wrap64 (v.1 * u.1) + wrap64 (v.2.1 * u.2.1)) + wrap64 (v.2.2 * u.2.2))
set_option maxRecDepth 100000 in
theorem dot_ (v u : V3) (w : World) : Calls Tryz.prog 27 #[v3 v, v3 u] w fun e w' => e = .returned (.int .i64 (dotW v u)) ∧ Below w.heap.size w w' := by
  obtain ⟨a, b, c⟩ := v
  obtain ⟨x, y, z⟩ := u
  go_enter Tryz.func27, Tryz.ntmps27
  go_wp2_with fail
  go_ret
  exact ⟨rfl, (by repeat (first | exact Below.refl _ _ | assumption | refine below_drewN ?_ _ | refine Below.drew ?_ | refine Below.setCell ?_ (by first | omega | (simp; done) | (simp; omega)) _ | refine Below.alloc ?_ (by first | omega | (simp; done) | (simp; omega)) _))⟩
def sqW (n : Int) : Int := if n < 0 then wrap64 (wrap64 (-n) * n) else wrap64 (n * n)
theorem sqr_ (n : Int) (w : World) : Calls Tryz.prog 64 #[.int .i64 n] w fun e w' => e = .returned (.int .i64 (sqW n)) ∧ w = w' := by
  by_cases h : n < 0
  · have hd : decide (n < 0) = true := decide_eq_true h
    go_enter Tryz.func64, Tryz.ntmps64
    go_wp2_with fail
    go_ret
    exact ⟨ret_int (by unfold sqW; rw [if_pos h]), rfl⟩
  · have hd : decide (n < 0) = false := decide_eq_false h
    go_enter Tryz.func64, Tryz.ntmps64
    go_wp2_with fail
    go_ret
    exact ⟨ret_int (by unfold sqW; rw [if_neg (Int.not_lt.2 h)]), rfl⟩
theorem sqr_is (n k : Int) (h : sqW n = k) (w : World) : Calls Tryz.prog 64 #[.int .i64 n] w fun e w' => e = .returned (.int .i64 k) ∧ w = w' := h ▸ sqr_ n w
def clampL (m : Int) : Int := if m < -1048576 then -1048576 else m
def clampI (m : Int) : Int := if 1048576 < clampL m then 1048576 else clampL m
def aboveW (k d m : Int) : Int := wrap64 (sqW k - wrap64 (sqW (clampI m) * d))
set_option maxRecDepth 100000 in
theorem above_ (k d m : Int) (w : World) : Calls Tryz.prog 31 #[.int .i64 k, .int .i64 d, .int .i64 m] w fun e w' => e = .returned (.int .i64 (aboveW k d m)) ∧ w = w' := by
  obtain ⟨p, hp⟩ : ∃ p, sqW k = p := ⟨_, rfl⟩
  obtain ⟨q, hq⟩ : ∃ q, sqW (clampI m) = q := ⟨_, rfl⟩
  have HP := Lib.hid hp
  have HQ := Lib.hid hq
  clear hp hq
  have e : aboveW k d m = wrap64 (p - wrap64 (q * d)) := by unfold aboveW; rw [HP.out, HQ.out]
  rw [e]
  clear e
  rcases (show m < -1048576 ∨ (¬ m < -1048576 ∧ 1048576 < m) ∨ (¬ m < -1048576 ∧ ¬ 1048576 < m) by omega) with h | ⟨h, h1⟩ | ⟨h, h1⟩
  · have HC : Hid (sqW (-1048576) = q) := by
      have e : clampI m = -1048576 := by unfold clampI clampL; rw [if_pos h, if_neg (by decide)]
      rw [← e]
      exact HQ.out
    go_enter Tryz.func31, Tryz.ntmps31
    go_wp2_with fail
    refine (sqr_is _ _ HP.out _).mono ?_
    rintro e w' ⟨rfl, rfl⟩
    go_wp2_with fail
    refine (sqr_is _ _ HC.out _).mono ?_
    rintro e w' ⟨rfl, rfl⟩
    go_wp2_with fail
    go_ret
    exact ⟨rfl, rfl⟩
  · have HC : Hid (sqW (1048576) = q) := by
      have e : clampI m = 1048576 := by unfold clampI clampL; rw [if_neg h, if_pos h1]
      rw [← e]
      exact HQ.out
    go_enter Tryz.func31, Tryz.ntmps31
    go_wp2_with fail
    refine (sqr_is _ _ HP.out _).mono ?_
    rintro e w' ⟨rfl, rfl⟩
    go_wp2_with fail
    refine (sqr_is _ _ HC.out _).mono ?_
    rintro e w' ⟨rfl, rfl⟩
    go_wp2_with fail
    go_ret
    exact ⟨rfl, rfl⟩
  · have HC : Hid (sqW (m) = q) := by
      have e : clampI m = m := by unfold clampI clampL; rw [if_neg h, if_neg h1]
      rw [← e]
      exact HQ.out
    go_enter Tryz.func31, Tryz.ntmps31
    go_wp2_with fail
    refine (sqr_is _ _ HP.out _).mono ?_
    rintro e w' ⟨rfl, rfl⟩
    go_wp2_with fail
    refine (sqr_is _ _ HC.out _).mono ?_
    rintro e w' ⟨rfl, rfl⟩
    go_wp2_with fail
    go_ret
    exact ⟨rfl, rfl⟩
theorem skGrid_ (n : Int) (w : World) : Calls Tryz.prog 30 #[.int .i64 n] w fun e w' => e = .returned (.bool (inB n 1 8)) ∧ w = w' := by
  go_enter Tryz.func30, Tryz.ntmps30
  go_wp2_with (go_at_call 24; refine (swithin_ _ _ _ _).mono ?_; rintro e w' ⟨rfl, rfl⟩)
  go_ret
  exact ⟨rfl, rfl⟩
end Go.Proofs.YtpphnnijnnfngaaGreatDoor

/-
  The walks of the sky's differs and direction.
-/
namespace Go.Proofs.YtpphnnijnnfngaaGreatDoor
open Go.RowKit Al

theorem dotc (a b c x y z : Int) (w : World) : Calls Tryz.prog 27 #[.agg #[.int .i64 a, .int .i64 b, .int .i64 c], .agg #[.int .i64 x, .int .i64 y, .int .i64 z]] w fun e w' => e = .returned (.int .i64 (dotW (a, b, c) (x, y, z))) ∧ Below w.heap.size w w' := dot_ (a, b, c) (x, y, z) w
/-- A site: its place, its arms. -/
structure Site where
  p : V3
  u : V3
  v : V3
@[reducible] def Site.val (s : Site) : Value := .agg #[.int .i64 s.p.1, .int .i64 s.p.2.1, .int .i64 s.p.2.2, .int .i64 s.u.1, .int .i64 s.u.2.1, .int .i64 s.u.2.2, .int .i64 s.v.1, .int .i64 s.v.2.1, .int .i64 s.v.2.2]
/-- What differs says. -/
def diffB (a b : Site) (d : V3) (n slack : Int) : Bool :=
  decide (0 ≤ aboveW (wrap64 (dotW a.p d - dotW b.p d)) (dotW d d) (wrap64 (n - slack))) && decide (aboveW (wrap64 (dotW a.p d - dotW b.p d)) (dotW d d) (wrap64 (n + slack)) ≤ 0)
set_option maxRecDepth 100000 in
set_option maxHeartbeats 4000000 in
theorem differs_ (a b : Site) (d : V3) (n slack : Int) (w : World) : Calls Tryz.prog 34 #[a.val, b.val, v3 d, .int .i64 n, .int .i64 slack] w fun e w' => e = .returned (.bool (diffB a b d n slack)) ∧ Below w.heap.size w w' := by
  obtain ⟨⟨a1, a2, a3⟩, ⟨a4, a5, a6⟩, ⟨a7, a8, a9⟩⟩ := a
  obtain ⟨⟨b1, b2, b3⟩, ⟨b4, b5, b6⟩, ⟨b7, b8, b9⟩⟩ := b
  obtain ⟨d1, d2, d3⟩ := d
  obtain ⟨k, hk⟩ : ∃ k, wrap64 (dotW (a1, a2, a3) (d1, d2, d3) - dotW (b1, b2, b3) (d1, d2, d3)) = k := ⟨_, rfl⟩
  obtain ⟨q, hq⟩ : ∃ q, dotW (d1, d2, d3) (d1, d2, d3) = q := ⟨_, rfl⟩
  obtain ⟨x, hx⟩ : ∃ x, aboveW k q (wrap64 (n - slack)) = x := ⟨_, rfl⟩
  obtain ⟨y, hy⟩ : ∃ y, aboveW k q (wrap64 (n + slack)) = y := ⟨_, rfl⟩
  have e : diffB ⟨(a1, a2, a3), (a4, a5, a6), (a7, a8, a9)⟩ ⟨(b1, b2, b3), (b4, b5, b6), (b7, b8, b9)⟩ (d1, d2, d3) n slack = (decide (0 ≤ x) && decide (y ≤ 0)) := by
    unfold diffB
    simp only []
    rw [hk, hq, hx, hy]
  rw [e]
  clear e
  by_cases h0 : 0 ≤ x
  · have hd : decide (0 ≤ x) = true := decide_eq_true h0
    go_enter Tryz.func34, Tryz.ntmps34
    go_wp2_with fail
    refine wp_region_bw2 (by kernel_rfl) (by kernel_rfl) (fun hbwc => ?_)
    repeat (go_big_quiet_step ((go_at_call 27; exact bwCall (dotc _ _ _ _ _ _ _))))
    refine wpQuiet_nil ?_
    clear hbwc
    intro w1 hb
    have Hw1 := Lib.hid ((show Below w.heap.size w _ from (by repeat (first | exact Below.refl _ _ | assumption | refine below_drewN ?_ _ | refine Below.drew ?_ | refine Below.setCell ?_ (by first | omega | (simp; done) | (simp; omega)) _ | refine Below.alloc ?_ (by first | omega | (simp; done) | (simp; omega)) _))).trans (hb.mono (by first | omega | (simp; done) | (simp; omega))))
    clear hb
    go_wp2_with (go_at_call 31; refine (above_ _ _ _ _).mono ?_; rintro e w' ⟨rfl, rfl⟩)
    go_ret
    exact ⟨ret_bool (by rw [hd, Bool.true_and]), Hw1.out⟩
  · have hd : decide (0 ≤ x) = false := decide_eq_false h0
    go_enter Tryz.func34, Tryz.ntmps34
    go_wp2_with fail
    refine wp_region_bw2 (by kernel_rfl) (by kernel_rfl) (fun hbwc => ?_)
    repeat (go_big_quiet_step ((go_at_call 27; exact bwCall (dotc _ _ _ _ _ _ _))))
    refine wpQuiet_nil ?_
    clear hbwc
    intro w1 hb
    have Hw1 := Lib.hid ((show Below w.heap.size w _ from (by repeat (first | exact Below.refl _ _ | assumption | refine below_drewN ?_ _ | refine Below.drew ?_ | refine Below.setCell ?_ (by first | omega | (simp; done) | (simp; omega)) _ | refine Below.alloc ?_ (by first | omega | (simp; done) | (simp; omega)) _))).trans (hb.mono (by first | omega | (simp; done) | (simp; omega))))
    clear hb
    go_wp2_with (go_at_call 31; refine (above_ _ _ _ _).mono ?_; rintro e w' ⟨rfl, rfl⟩)
    go_ret
    exact ⟨ret_bool (by rw [hd, Bool.false_and]), Hw1.out⟩
end Go.Proofs.YtpphnnijnnfngaaGreatDoor

/-
  The walk of the sky's direction of a cell.
-/
namespace Go.Proofs.YtpphnnijnnfngaaGreatDoor
open Go.RowKit Al

/-- The direction, from face, row and column. -/
def dirF (n f i j : Int) : V3 :=
  if f.tdiv 2 = 0 then (if f.tmod 2 = 1 then -n else n, 2 * i + 1 - n, 2 * j + 1 - n)
  else if f.tdiv 2 = 1 then (2 * i + 1 - n, if f.tmod 2 = 1 then -n else n, 2 * j + 1 - n)
  else (2 * i + 1 - n, 2 * j + 1 - n, if f.tmod 2 = 1 then -n else n)
/-- The direction of a cell. -/
def dirV (n c : Int) : V3 := dirF n (c.tdiv (n * n)) ((c.tdiv n).tmod n) (c.tmod n)
theorem sq_in {n : Int} (h1 : 1 ≤ n) (h2 : n ≤ 8) : 1 ≤ n * n ∧ n * n ≤ 64 ∧ n ≤ n * n := by
  obtain rfl | rfl | rfl | rfl | rfl | rfl | rfl | rfl : n = 1 ∨ n = 2 ∨ n = 3 ∨ n = 4 ∨ n = 5 ∨ n = 6 ∨ n = 7 ∨ n = 8 := by omega
  all_goals decide
theorem tdiv_le {c n : Int} (h0 : 0 ≤ c) (h1 : 1 ≤ n) : 0 ≤ c.tdiv n ∧ c.tdiv n ≤ c := by
  rw [Int.tdiv_eq_ediv_of_nonneg h0]
  exact ⟨Int.ediv_nonneg h0 (by omega), Int.ediv_le_self _ h0⟩
theorem tmod_in {c n : Int} (h0 : 0 ≤ c) (h1 : 1 ≤ n) : 0 ≤ c.tmod n ∧ c.tmod n < n := by
  rw [Int.tmod_eq_emod_of_nonneg h0]
  exact ⟨Int.emod_nonneg _ (by omega), Int.emod_lt_of_pos _ (by omega)⟩
theorem face_in {c m : Int} (h0 : 0 ≤ c) (h1 : 1 ≤ m) (h2 : c < 6 * m) : 0 ≤ c.tdiv m ∧ c.tdiv m ≤ 5 := by
  rw [Int.tdiv_eq_ediv_of_nonneg h0]
  exact ⟨Int.ediv_nonneg h0 (by omega), by have := (Int.ediv_lt_iff_lt_mul (a := c) (b := 6) (c := m) (by omega)).2 h2; omega⟩
theorem w64 {x : Int} (h1 : -1000000000000 ≤ x) (h2 : x ≤ 1000000000000) : wrap64 x = x := by unfold wrap64; omega
theorem idx0 (a b c d e f g h i : Value) (w : World) : Sem.run Tryz.prog (Instr.index 121 (.agg #[a, b, c, d, e, f, g, h, i]) (.int .i64 0)) w = .ok (.agg #[a, b, c]) w := by
  simp [Instr.index, go_sem]
theorem idx1 (a b c d e f g h i : Value) (w : World) : Sem.run Tryz.prog (Instr.index 121 (.agg #[a, b, c, d, e, f, g, h, i]) (.int .i64 1)) w = .ok (.agg #[d, e, f]) w := by
  simp [Instr.index, go_sem]
theorem idx2 (a b c d e f g h i : Value) (w : World) : Sem.run Tryz.prog (Instr.index 121 (.agg #[a, b, c, d, e, f, g, h, i]) (.int .i64 2)) w = .ok (.agg #[g, h, i]) w := by
  simp [Instr.index, go_sem]
attribute [local go_sem ↓] idx0 idx1 idx2
theorem three_set {W : World} {b : Nat} {x y z : Value} (h0 : W.cell? ⟨b, 0, none⟩ = some x) (h1 : W.cell? ⟨b, 1, none⟩ = some y) (h2 : W.cell? ⟨b, 2, none⟩ = some z) (u v t : Value) :
    (((W.setCell ⟨b, 0, none⟩ u).setCell ⟨b, 1, none⟩ v).setCell ⟨b, 2, none⟩ t).cell? ⟨b, 0, none⟩ = some u ∧ (((W.setCell ⟨b, 0, none⟩ u).setCell ⟨b, 1, none⟩ v).setCell ⟨b, 2, none⟩ t).cell? ⟨b, 1, none⟩ = some v ∧ (((W.setCell ⟨b, 0, none⟩ u).setCell ⟨b, 1, none⟩ v).setCell ⟨b, 2, none⟩ t).cell? ⟨b, 2, none⟩ = some t :=
  ⟨(World.cell?_setCell_other _ _ _ _ (by simp)).trans ((World.cell?_setCell_other _ _ _ _ (by simp)).trans (World.cell?_setCell_same _ _ _ h0)),
   (World.cell?_setCell_other _ _ _ _ (by simp)).trans (World.cell?_setCell_same _ _ _ ((World.cell?_setCell_other _ _ _ _ (by simp)).trans h1)),
   World.cell?_setCell_same _ _ _ ((World.cell?_setCell_other _ _ _ _ (by simp)).trans ((World.cell?_setCell_other _ _ _ _ (by simp)).trans h2))⟩
/-- The end of a function whose result is three cells of a block of its own. -/
theorem fin3 {P : Program} {fn : Func} {R : Ending → World → Prop} {a : Act} {w : World} (b : Nat) {u v t x y z : Value} (val : Value) (hd : a.defers = [])
    (hres : ∀ W : World, W.cell? ⟨b, 0, none⟩ = some u → W.cell? ⟨b, 1, none⟩ = some v → W.cell? ⟨b, 2, none⟩ = some t → (results fn a.tmps).run P W = .ok val W)
    (h0 : w.cell? ⟨b, 0, none⟩ = some x) (h1 : w.cell? ⟨b, 1, none⟩ = some y) (h2 : w.cell? ⟨b, 2, none⟩ = some z) (hR : R (.returned val) (((w.setCell ⟨b, 0, none⟩ u).setCell ⟨b, 1, none⟩ v).setCell ⟨b, 2, none⟩ t)) :
    bodyPost P fn R .ret a (((w.setCell ⟨b, 0, none⟩ u).setCell ⟨b, 1, none⟩ v).setCell ⟨b, 2, none⟩ t) :=
  bodyPost_ret (hres _ (three_set h0 h1 h2 u v t).1 (three_set h0 h1 h2 u v t).2.1 (three_set h0 h1 h2 u v t).2.2) hd hR
set_option maxRecDepth 100000 in
set_option maxHeartbeats 4000000 in
theorem direction_ (n c : Int) (h1 : 1 ≤ n) (h2 : n ≤ 8) (h3 : 0 ≤ c) (h4 : c < 6 * (n * n)) (w : World) :
    Calls Tryz.prog 25 #[.int .i64 n, .int .i64 c] w fun e w' => e = .returned (v3 (dirV n c)) ∧ Below w.heap.size w w' := by
  obtain ⟨m1, m2, m3⟩ := sq_in h1 h2
  obtain ⟨f1, f2⟩ := face_in h3 m1 h4
  obtain ⟨g1, g2⟩ := tdiv_le h3 h1
  obtain ⟨i1, i2⟩ := tmod_in g1 h1
  obtain ⟨j1, j2⟩ := tmod_in h3 h1
  have e : dirV n c = dirF n (c.tdiv (n * n)) ((c.tdiv n).tmod n) (c.tmod n) := rfl
  rw [e]
  clear e
  have n0 : n ≠ 0 := by omega
  have n1 : (n == 0) = false := by simpa using n0
  have k1 : wrap64 (n * n) = n * n := w64 (by omega) (by omega)
  have k2 : wrap64 (c.tdiv (n * n)) = c.tdiv (n * n) := w64 (by omega) (by omega)
  have k3 : wrap64 (c.tdiv n) = c.tdiv n := w64 (by omega) (by omega)
  have nn0 : n * n ≠ 0 := by omega
  generalize hnn : n * n = nn at *
  generalize hf : c.tdiv nn = f at *
  generalize hg : c.tdiv n = g at *
  generalize hi : g.tmod n = i at *
  generalize hj : c.tmod n = j at *
  clear m1 m2 m3 g1 g2 h3 h4
  have n2 : (nn == 0) = false := by simpa using nn0
  go_enter Tryz.func25, Tryz.ntmps25
  go_wp2_with fail
  refine wp_region_bw2 (by kernel_rfl) (by kernel_rfl) (fun hbwc => ?_)
  repeat (go_big_quiet_step (fail))
  refine wpQuiet_nil ?_
  clear hbwc
  intro w1 hb
  obtain ⟨hcw, hfw⟩ := bcell hb
  have HW : Hid (Below w.heap.size w w1) := (show Below w.heap.size w _ from (by repeat (first | exact Below.refl _ _ | assumption | refine below_drewN ?_ _ | refine Below.drew ?_ | refine Below.setCell ?_ (by first | omega | (simp; done) | (simp; omega)) _ | refine Below.alloc ?_ (by first | omega | (simp; done) | (simp; omega)) _))).trans (hb.mono (by first | omega | (simp; done) | (simp; omega)))
  have p0 : w1.cell? ⟨w.heap.size, 0, none⟩ = some (.int .i64 0) := by rw [hcw _ _ (by simp)]; simp [go_sem]
  have p1 : w1.cell? ⟨w.heap.size, 1, none⟩ = some (.int .i64 0) := by rw [hcw _ _ (by simp)]; simp [go_sem]
  have p2 : w1.cell? ⟨w.heap.size, 2, none⟩ = some (.int .i64 0) := by rw [hcw _ _ (by simp)]; simp [go_sem]
  have hz := hb.size
  simp at hz
  have hz1 : w.heap.size < w1.heap.size := by omega
  have q0 : w1.frozen? ⟨w.heap.size, 0, none⟩ = false := by rw [hfw _ _ (by simp)]; simp [go_sem]
  have q1 : w1.frozen? ⟨w.heap.size, 1, none⟩ = false := by rw [hfw _ _ (by simp)]; simp [go_sem]
  have q2 : w1.frozen? ⟨w.heap.size, 2, none⟩ = false := by rw [hfw _ _ (by simp)]; simp [go_sem]
  have P0 := Lib.hid p0
  have P1 := Lib.hid p1
  have P2 := Lib.hid p2
  have HF := Lib.hid hf
  clear hb hcw hfw k1 k2 k3 n0 n1 n2 nn0 hnn hf hg hi hj
  obtain rfl | rfl | rfl | rfl | rfl | rfl : f = 0 ∨ f = 1 ∨ f = 2 ∨ f = 3 ∨ f = 4 ∨ f = 5 := by omega
  · clear f1 f2
    go_wp2_with fail
    refine fin3 w.heap.size (.agg #[.int .i64 (n), .int .i64 (2 * i + 1 - n), .int .i64 (2 * j + 1 - n)]) rfl (fun W e0 e1 e2 => by simp [results, Tryz.results25, go_sem, e0, e1, e2]) P0.out P1.out P2.out ⟨rfl, (((HW.out.setCell (by simp) _).setCell (by simp) _).setCell (by simp) _)⟩
  · clear f1 f2
    go_wp2_with fail
    refine fin3 w.heap.size (.agg #[.int .i64 (-n), .int .i64 (2 * i + 1 - n), .int .i64 (2 * j + 1 - n)]) rfl (fun W e0 e1 e2 => by simp [results, Tryz.results25, go_sem, e0, e1, e2]) P0.out P1.out P2.out ⟨rfl, (((HW.out.setCell (by simp) _).setCell (by simp) _).setCell (by simp) _)⟩
  · clear f1 f2
    go_wp2_with fail
    refine fin3 w.heap.size (.agg #[.int .i64 (2 * i + 1 - n), .int .i64 (n), .int .i64 (2 * j + 1 - n)]) rfl (fun W e0 e1 e2 => by simp [results, Tryz.results25, go_sem, e0, e1, e2]) P0.out P1.out P2.out ⟨rfl, (((HW.out.setCell (by simp) _).setCell (by simp) _).setCell (by simp) _)⟩
  · clear f1 f2
    go_wp2_with fail
    refine fin3 w.heap.size (.agg #[.int .i64 (2 * i + 1 - n), .int .i64 (-n), .int .i64 (2 * j + 1 - n)]) rfl (fun W e0 e1 e2 => by simp [results, Tryz.results25, go_sem, e0, e1, e2]) P0.out P1.out P2.out ⟨rfl, (((HW.out.setCell (by simp) _).setCell (by simp) _).setCell (by simp) _)⟩
  · clear f1 f2
    go_wp2_with fail
    refine fin3 w.heap.size (.agg #[.int .i64 (2 * i + 1 - n), .int .i64 (2 * j + 1 - n), .int .i64 (n)]) rfl (fun W e0 e1 e2 => by simp [results, Tryz.results25, go_sem, e0, e1, e2]) P0.out P1.out P2.out ⟨rfl, (((HW.out.setCell (by simp) _).setCell (by simp) _).setCell (by simp) _)⟩
  · clear f1 f2
    go_wp2_with fail
    refine fin3 w.heap.size (.agg #[.int .i64 (2 * i + 1 - n), .int .i64 (2 * j + 1 - n), .int .i64 (-n)]) rfl (fun W e0 e1 e2 => by simp [results, Tryz.results25, go_sem, e0, e1, e2]) P0.out P1.out P2.out ⟨rfl, (((HW.out.setCell (by simp) _).setCell (by simp) _).setCell (by simp) _)⟩
end Go.Proofs.YtpphnnijnnfngaaGreatDoor
