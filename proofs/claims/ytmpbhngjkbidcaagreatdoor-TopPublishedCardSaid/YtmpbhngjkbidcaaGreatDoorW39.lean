/-
  The walks of the helpers of TopPublished: office.
-/
import Derived.Test.YtmpbhngjkbidcaaGreatDoorW21
namespace Go.Proofs.YtmpbhngjkbidcaaGreatDoor
open Go.RowKit Al

/-- The keys of the office, and their secrets. -/
def offK : List (Int × Int) := [(10403, 7), (11663, 5)]
def offS : List Int := [3643, 1145]
theorem okey1 : keyB 101 103 7 = true := by decide +kernel
theorem okey2 : keyB 107 109 5 = true := by decide +kernel
theorem osec1 : secretI (lcmI 101 103) 7 = 3643 := by decide +kernel
theorem osec2 : secretI (lcmI 107 109) 5 = 1145 := by decide +kernel
theorem omk1_ (w : World) : Calls Tryz.prog 32 #[.int .i64 101, .int .i64 103, .int .i64 7] w fun e w' => e = .returned (.tuple #[.agg #[.int .i64 10403, .int .i64 7], .int .i64 3643, .int .i64 0]) ∧ Below w.heap.size w w' := by
  have := makeKey_yes 101 103 7 okey1 w
  rw [osec1] at this
  exact this
theorem omk2_ (w : World) : Calls Tryz.prog 32 #[.int .i64 107, .int .i64 109, .int .i64 5] w fun e w' => e = .returned (.tuple #[.agg #[.int .i64 11663, .int .i64 5], .int .i64 1145, .int .i64 0]) ∧ Below w.heap.size w w' := by
  have := makeKey_yes 107 109 5 okey2 w
  rw [osec2] at this
  exact this
def OffT (w : World) (e : Ending) (w' : World) : Prop := ∃ K kc, e = .returned (.tuple #[.agg #[.slice K 2 kc, .int .i64 2], .agg #[.int .i64 3643, .int .i64 1145], .bool true]) ∧ w'.ownsRow w.heap.size 94 2 (.slice K 2 kc) 2 (keyCells offK) ∧ Below w.heap.size w w'
set_option maxRecDepth 100000 in
set_option maxHeartbeats 2000000 in
theorem office_ (w : World) : Calls Tryz.prog 19 #[] w (OffT w) := by
  go_enter Tryz.func19, Tryz.ntmps19
  go_wp2_with fail
  refine (omk1_ _).mono ?_
  rintro e w1 ⟨rfl, hb⟩
  have H1 : Hid (Below w.heap.size w w1) := (show Below w.heap.size w _ from (by repeat (first | exact Below.refl _ _ | assumption | refine below_drewN ?_ _ | refine Below.drew ?_ | refine Below.setCell ?_ (by first | omega | (simp; done) | (simp; omega)) _ | refine Below.alloc ?_ (by first | omega | (simp; done) | (simp; omega)) _))).trans (hb.mono (by first | omega | (simp; done) | (simp; omega)))
  obtain ⟨hcw1, hfw1⟩ := bcell hb
  have hz1 := hb.size
  simp at hz1
  clear hb
  go_wp2_with fail
  refine (omk2_ _).mono ?_
  rintro e w2 ⟨rfl, hb⟩
  have H2 : Hid (Below w.heap.size w w2) := H1.out.trans ((show Below w.heap.size w1 _ from (by repeat (first | exact Below.refl _ _ | assumption | refine below_drewN ?_ _ | refine Below.drew ?_ | refine Below.setCell ?_ (by first | omega | (simp; done) | (simp; omega)) _ | refine Below.alloc ?_ (by first | omega | (simp; done) | (simp; omega)) _))).trans (hb.mono (by first | omega | (simp; done) | (simp; omega))))
  obtain ⟨hcw2, hfw2⟩ := bcell hb
  have hz2 := hb.size
  simp at hz2
  clear hb
  have l0 : w.heap.size < w2.heap.size := by omega
  have l1 : w.heap.size + 1 < w2.heap.size := by omega
  have l2 : w1.heap.size < w2.heap.size := by omega
  have a0 : w2.cell? ⟨w.heap.size, 0, none⟩ = some (.slice none 0 0) := by rw [hcw2 _ _ (by simp; omega), World.cell?_alloc_past _ _ _ (show w.heap.size < w1.heap.size by omega), hcw1 _ _ (by first | (simp; done) | (simp; omega))]; simp [go_sem]
  have fa0 : w2.frozen? ⟨w.heap.size, 0, none⟩ = false := by rw [hfw2 _ _ (by simp; omega), World.frozen?_alloc_past _ _ _ (show w.heap.size < w1.heap.size by omega), hfw1 _ _ (by first | (simp; done) | (simp; omega))]; simp [go_sem]
  have a1 : w2.cell? ⟨w.heap.size, 1, none⟩ = some (.int .i64 0) := by rw [hcw2 _ _ (by simp; omega), World.cell?_alloc_past _ _ _ (show w.heap.size < w1.heap.size by omega), hcw1 _ _ (by first | (simp; done) | (simp; omega))]; simp [go_sem]
  have fa1 : w2.frozen? ⟨w.heap.size, 1, none⟩ = false := by rw [hfw2 _ _ (by simp; omega), World.frozen?_alloc_past _ _ _ (show w.heap.size < w1.heap.size by omega), hfw1 _ _ (by first | (simp; done) | (simp; omega))]; simp [go_sem]
  have b0 : w2.cell? ⟨w.heap.size + 1, 0, none⟩ = some (.int .i64 0) := by rw [hcw2 _ _ (by simp; omega), World.cell?_alloc_past _ _ _ (show w.heap.size + 1 < w1.heap.size by omega), hcw1 _ _ (by first | (simp; done) | (simp; omega))]; simp [go_sem]
  have fb0 : w2.frozen? ⟨w.heap.size + 1, 0, none⟩ = false := by rw [hfw2 _ _ (by simp; omega), World.frozen?_alloc_past _ _ _ (show w.heap.size + 1 < w1.heap.size by omega), hfw1 _ _ (by first | (simp; done) | (simp; omega))]; simp [go_sem]
  have b1 : w2.cell? ⟨w.heap.size + 1, 1, none⟩ = some (.int .i64 0) := by rw [hcw2 _ _ (by simp; omega), World.cell?_alloc_past _ _ _ (show w.heap.size + 1 < w1.heap.size by omega), hcw1 _ _ (by first | (simp; done) | (simp; omega))]; simp [go_sem]
  have fb1 : w2.frozen? ⟨w.heap.size + 1, 1, none⟩ = false := by rw [hfw2 _ _ (by simp; omega), World.frozen?_alloc_past _ _ _ (show w.heap.size + 1 < w1.heap.size by omega), hfw1 _ _ (by first | (simp; done) | (simp; omega))]; simp [go_sem]
  have k0 : w2.cell? ⟨w1.heap.size, 0, none⟩ = some (.int .i64 10403) := by rw [hcw2 _ _ (by simp)]; simp [go_sem]
  have k1 : w2.cell? ⟨w1.heap.size, 1, none⟩ = some (.int .i64 7) := by rw [hcw2 _ _ (by simp)]; simp [go_sem]
  clear hcw1 hfw1 hcw2 hfw2
  go_wp2_with fail
  refine bodyPost_ret (v := .tuple #[.agg #[.slice (some ⟨w2.heap.size + 1, 0, none⟩) 2 2, .int .i64 2], .agg #[.int .i64 3643, .int .i64 1145], .bool true]) (by simp [results, Tryz.results19, go_sem, l0, l1, a0, a1, b0, b1]) rfl ⟨some ⟨w2.heap.size + 1, 0, none⟩, 2, rfl, ?_, (by repeat (first | exact Below.refl _ _ | exact (H2).out | refine below_drewN ?_ _ | refine Below.drew ?_ | refine Below.setCell ?_ (by first | omega | (simp; done) | (simp; omega)) _ | refine Below.alloc ?_ (by first | omega | (simp; done) | (simp; omega)) _))⟩
  have h := World.ownsRow_lit (base := w.heap.size) (e := 94) (size := 2) (((((w2.setCell ⟨w.heap.size, 0, none⟩ (.slice (some ⟨w2.heap.size + 1, 0, none⟩) 2 2)).setCell ⟨w.heap.size, 1, none⟩ (.int .i64 2)).setCell ⟨w.heap.size + 1, 0, none⟩ (.int .i64 3643)).setCell ⟨w.heap.size + 1, 1, none⟩ (.int .i64 1145)).alloc (.cells #[.int .i64 11663, .int .i64 5] 94)) #[.int .i64 10403, .int .i64 7, .int .i64 11663, .int .i64 5] 2 (by simp; omega) (by decide) rfl
  simp at h
  exact h
end Go.Proofs.YtmpbhngjkbidcaaGreatDoor

/-
  The walks of the helpers of TopPublished: signed.
-/
namespace Go.Proofs.YtmpbhngjkbidcaaGreatDoor
open Go.RowKit Al

theorem off_ok : rollOk offK 2 = true := by decide +kernel
theorem off_plaus : plaus 10403 7 = true ∧ plaus 11663 5 = true := by decide
theorem off_sec : inB 3643 1 1073741824 = true ∧ inB 1145 1 1073741824 = true := by decide
@[reducible] def ntcZ : Array Value := #[.string ⟨#[]⟩, .int .i64 0, .int .i64 0, .int .i64 0, .int .i64 0, .int .i64 0, .slice none 0 0, .bool false, .int .i64 0, .slice none 0 0]
/-- What lies in the two blocks that signed makes first. -/
theorem sg_box {w W : World} {a : Alr} {A : Option Addr} {c : Nat} (h : Below (w.heap.size + 1 + 1) ((w.alloc (.cells (a.val A c).cells 55)).alloc (.cells ntcZ 72)) W) :
    W.cell? ⟨w.heap.size, 0, none⟩ = some (.string a.ev) ∧ W.cell? ⟨w.heap.size, 1, none⟩ = some (.int .i64 a.ver) ∧ W.cell? ⟨w.heap.size, 2, none⟩ = some (.int .i64 a.tm) ∧ W.cell? ⟨w.heap.size, 3, none⟩ = some (.int .i64 a.n) ∧ W.cell? ⟨w.heap.size, 4, none⟩ = some (.int .i64 a.of) ∧ W.cell? ⟨w.heap.size, 5, none⟩ = some (.int .i64 a.grid) ∧ W.cell? ⟨w.heap.size, 6, none⟩ = some (.slice A a.cells.length c) ∧ W.cell? ⟨w.heap.size, 7, none⟩ = some (.bool a.wd) ∧ W.cell? ⟨w.heap.size, 8, none⟩ = some (.int .i64 a.before) := by
  have e := fun j => h.cell (p := ⟨w.heap.size, j, none⟩) (by show w.heap.size < w.heap.size + 1 + 1; omega)
  refine ⟨?_, ?_, ?_, ?_, ?_, ?_, ?_, ?_, ?_⟩ <;> (rw [e]; simp [go_sem])
theorem sg_res {w W : World} {a : Alr} {A : Option Addr} {c : Nat} (h : Below (w.heap.size + 1 + 1) ((w.alloc (.cells (a.val A c).cells 55)).alloc (.cells ntcZ 72)) W) :
    (W.cell? ⟨w.heap.size + 1, 0, none⟩ = some (.string ⟨#[]⟩) ∧ W.cell? ⟨w.heap.size + 1, 1, none⟩ = some (.int .i64 0) ∧ W.cell? ⟨w.heap.size + 1, 2, none⟩ = some (.int .i64 0) ∧ W.cell? ⟨w.heap.size + 1, 3, none⟩ = some (.int .i64 0) ∧ W.cell? ⟨w.heap.size + 1, 4, none⟩ = some (.int .i64 0) ∧ W.cell? ⟨w.heap.size + 1, 5, none⟩ = some (.int .i64 0) ∧ W.cell? ⟨w.heap.size + 1, 6, none⟩ = some (.slice none 0 0) ∧ W.cell? ⟨w.heap.size + 1, 7, none⟩ = some (.bool false) ∧ W.cell? ⟨w.heap.size + 1, 8, none⟩ = some (.int .i64 0) ∧ W.cell? ⟨w.heap.size + 1, 9, none⟩ = some (.slice none 0 0)) ∧
    W.frozen? ⟨w.heap.size + 1, 0, none⟩ = false ∧ W.frozen? ⟨w.heap.size + 1, 1, none⟩ = false ∧ W.frozen? ⟨w.heap.size + 1, 2, none⟩ = false ∧ W.frozen? ⟨w.heap.size + 1, 3, none⟩ = false ∧ W.frozen? ⟨w.heap.size + 1, 4, none⟩ = false ∧ W.frozen? ⟨w.heap.size + 1, 5, none⟩ = false ∧ W.frozen? ⟨w.heap.size + 1, 6, none⟩ = false ∧ W.frozen? ⟨w.heap.size + 1, 7, none⟩ = false ∧ W.frozen? ⟨w.heap.size + 1, 8, none⟩ = false ∧ W.frozen? ⟨w.heap.size + 1, 9, none⟩ = false := by
  have e := fun j => h.cell (p := ⟨w.heap.size + 1, j, none⟩) (by show w.heap.size + 1 < w.heap.size + 1 + 1; omega)
  have f := fun j => h.frozen (p := ⟨w.heap.size + 1, j, none⟩) (by show w.heap.size + 1 < w.heap.size + 1 + 1; omega)
  refine ⟨⟨?_, ?_, ?_, ?_, ?_, ?_, ?_, ?_, ?_, ?_⟩, ?_, ?_, ?_, ?_, ?_, ?_, ?_, ?_, ?_, ?_⟩ <;> first | (rw [e]; simp [go_sem]; done) | (rw [f]; simp [go_sem])
/-- The keys of the office in memory. -/
theorem off_cells {w : World} {base : Nat} {K : Option Addr} {kc : Nat} (h : w.ownsRow base 94 2 (.slice K 2 kc) 2 (keyCells offK)) :
    ∃ g, K = some ⟨g, 0, none⟩ ∧ base ≤ g ∧ g < w.heap.size ∧ w.cell? ⟨g, 0, none⟩ = some (.int .i64 10403) ∧ w.cell? ⟨g, 1, none⟩ = some (.int .i64 7) ∧ w.cell? ⟨g, 2, none⟩ = some (.int .i64 11663) ∧ w.cell? ⟨g, 3, none⟩ = some (.int .i64 5) := by
  have hs := Sl.of_own h
  obtain ⟨b, off, e, hb, hc⟩ := hs.at_ (by decide)
  have h2 := h.2
  rcases h2 with ⟨hv, _⟩ | ⟨g, cap, cur, hv, hg, _, _⟩
  · cases hv
  · cases hv
    cases e
    have k0 := hc 0 _ rfl
    have k1 := hc 1 _ rfl
    have k2 := hc 2 _ rfl
    have k3 := hc 3 _ rfl
    simp only [Nat.zero_add, Nat.add_zero] at k0 k1 k2 k3
    exact ⟨_, rfl, hg, hb, k0, k1, k2, k3⟩
theorem oSign_ (m x s : Int) (a : Alr) (A : Option Addr) (c : Nat) (w : World) {d : Int} (hd : pw (digA a) s m = d) (h1 : plaus m x = true) (h2 : inB s 1 1073741824 = true) (hk : okA a = true) (h : AIn w a A c) (hr : Rdy w) :
    Calls Tryz.prog 48 #[.agg #[.int .i64 m, .int .i64 x], .int .i64 s, a.val A c] w fun e w' => e = .returned (.tuple #[.int .i64 d, .int .i64 0]) ∧ Below w.heap.size w w' := by
  subst hd
  exact Sign_is m x s a A c w h1 h2 hk h hr
set_option maxRecDepth 100000 in
set_option maxHeartbeats 4000000 in
theorem topsigned_ (a : Alr) (A : Option Addr) (c : Nat) (w : World) (ha : AIn w a A c) (hr : Rdy w) (hok : okA a = true) :
    Calls Tryz.prog 20 #[a.val A c] w (SgT a A c [(0, pw (digA a) 3643 10403), (1, pw (digA a) 1145 11663)] w) := by
  have HA := Lib.hid ha
  have HR := Lib.hid hr
  have HO := Lib.hid hok
  clear ha hr hok
  obtain ⟨d1, hd1⟩ : ∃ d, pw (digA a) 3643 10403 = d := ⟨_, rfl⟩
  obtain ⟨d2, hd2⟩ : ∃ d, pw (digA a) 1145 11663 = d := ⟨_, rfl⟩
  rw [hd1, hd2]
  have HD1 := Lib.hid hd1
  have HD2 := Lib.hid hd2
  clear hd1 hd2
  go_enter Tryz.func20, Tryz.ntmps20
  go_wp2_with fail
  refine (office_ _).mono ?_
  rintro e w1 ⟨K, kc, rfl, hK, hb⟩
  obtain ⟨g, rfl, hg, hg1, k0, k1, k2, k3⟩ := off_cells hK
  have H1 : Hid (Below w.heap.size w w1) := (show Below w.heap.size w _ from (by repeat (first | exact Below.refl _ _ | assumption | refine below_drewN ?_ _ | refine Below.drew ?_ | refine Below.setCell ?_ (by first | omega | (simp; done) | (simp; omega)) _ | refine Below.alloc ?_ (by first | omega | (simp; done) | (simp; omega)) _))).trans (hb.mono (by first | omega | (simp; done) | (simp; omega)))
  have HX1 : Hid (Below (w.heap.size + 1 + 1) ((w.alloc (.cells (a.val A c).cells 55)).alloc (.cells ntcZ 72)) w1) := hb.mono (by simp)
  have hz1 := HX1.out.size
  simp at hz1
  have HK := Lib.hid (And.intro k0 (And.intro k1 (And.intro k2 k3)))
  clear hb hK
  obtain ⟨q0, q1, q2, q3, q4, q5, q6, q7, q8⟩ := sg_box HX1.out
  have l0 : w.heap.size < w1.heap.size := by omega
  have l1 : w.heap.size + 1 < w1.heap.size := by omega
  have m0 : w.heap.size < w1.heap.size + 1 + 1 := by omega
  have m1 : g < w1.heap.size + 1 + 1 := by omega
  have m2 : w1.heap.size < w1.heap.size + 1 + 1 := by omega
  have m3 : w1.heap.size + 1 < w1.heap.size + 1 + 1 := by omega
  go_wp2_with fail
  refine wp_region_bw2 (by kernel_rfl) (by kernel_rfl) (fun hbwc => ?_)
  repeat (go_big_quiet_step ((go_at_call 48; exact bwCall (oSign_ 10403 7 3643 a A c _ HD1.out off_plaus.1 off_sec.1 HO.out (AIn.below (AIn.below (HA.out.below H1.out) (by (repeat (first | exact Below.refl _ _ | assumption | refine below_drewN ?_ _ | refine Below.drew ?_ | refine Below.setCell ?_ (by first | omega | (simp; done) | (simp; omega)) _ | refine Below.alloc ?_ (by first | omega | (simp; done) | (simp; omega)) _)))) (BW.below _)) (Rdy.below (Rdy.below (HR.out.below H1.out) (by (repeat (first | exact Below.refl _ _ | assumption | refine below_drewN ?_ _ | refine Below.drew ?_ | refine Below.setCell ?_ (by first | omega | (simp; done) | (simp; omega)) _ | refine Below.alloc ?_ (by first | omega | (simp; done) | (simp; omega)) _)))) (BW.below _))))))
  refine wpQuiet_nil ?_
  clear hbwc
  intro w3 hb
  have H3 : Hid (Below w.heap.size w w3) := H1.out.trans ((show Below w.heap.size w1 _ from (by repeat (first | exact Below.refl _ _ | assumption | refine below_drewN ?_ _ | refine Below.drew ?_ | refine Below.setCell ?_ (by first | omega | (simp; done) | (simp; omega)) _ | refine Below.alloc ?_ (by first | omega | (simp; done) | (simp; omega)) _))).trans (hb.mono (by first | omega | (simp; done) | (simp; omega))))
  have HX3 : Hid (Below (w.heap.size + 1 + 1) ((w.alloc (.cells (a.val A c).cells 55)).alloc (.cells ntcZ 72)) w3) := HX1.out.trans ((show Below (w.heap.size + 1 + 1) w1 _ from (by repeat (first | exact Below.refl _ _ | assumption | refine below_drewN ?_ _ | refine Below.drew ?_ | refine Below.setCell ?_ (by first | omega | (simp; done) | (simp; omega)) _ | refine Below.alloc ?_ (by first | omega | (simp; done) | (simp; omega)) _))).trans (hb.mono (by first | omega | (simp; done) | (simp; omega))))
  have HO3 : Below w1.heap.size w1 w3 := (show Below w1.heap.size w1 _ from (by repeat (first | exact Below.refl _ _ | assumption | refine below_drewN ?_ _ | refine Below.drew ?_ | refine Below.setCell ?_ (by first | omega | (simp; done) | (simp; omega)) _ | refine Below.alloc ?_ (by first | omega | (simp; done) | (simp; omega)) _))).trans (hb.mono (by first | omega | (simp; done) | (simp; omega)))
  have hz3 := hb.size
  simp at hz3
  have r0 : w3.cell? ⟨w1.heap.size, 0, none⟩ = some (.slice (some ⟨g, 0, none⟩) 2 kc) := by rw [hb.cell (p := ⟨w1.heap.size, 0, none⟩) (by simp; omega)]; simp [go_sem]
  have s1 : w3.cell? ⟨w1.heap.size + 1, 1, none⟩ = some (.int .i64 1145) := by rw [hb.cell (p := ⟨w1.heap.size + 1, 1, none⟩) (by simp)]; simp [go_sem]
  have k2' := (HO3.cell (p := ⟨g, 2, none⟩) hg1).trans k2
  have k3' := (HO3.cell (p := ⟨g, 3, none⟩) hg1).trans k3
  clear hb k0 k1 k2 k3 q0 q1 q2 q3 q4 q5 q6 q7 q8 l0 l1 m0 m1 m2 m3 HO3 hg
  obtain ⟨q0, q1, q2, q3, q4, q5, q6, q7, q8⟩ := sg_box HX3.out
  have l0 : w.heap.size < w3.heap.size := by omega
  have l1 : w.heap.size + 1 < w3.heap.size := by omega
  have l2 : w1.heap.size < w3.heap.size := by omega
  have l3 : w1.heap.size + 1 < w3.heap.size := by omega
  have l4 : g < w3.heap.size := by omega
  go_wp2_with fail
  refine wp_region_bw2 (by kernel_rfl) (by kernel_rfl) (fun hbwc => ?_)
  repeat (go_big_quiet_step ((go_at_call 48; exact bwCall (oSign_ 11663 5 1145 a A c _ HD2.out off_plaus.2 off_sec.2 HO.out (AIn.below (HA.out.below H3.out) (BW.below _)) (Rdy.below (HR.out.below H3.out) (BW.below _))))))
  refine wpQuiet_nil ?_
  clear hbwc
  intro w4 hb
  have H4 : Hid (Below w.heap.size w w4) := H3.out.trans (hb.mono (by omega))
  have HX4 : Hid (Below (w.heap.size + 1 + 1) ((w.alloc (.cells (a.val A c).cells 55)).alloc (.cells ntcZ 72)) w4) := HX3.out.trans (hb.mono (by omega))
  have hz4 := hb.size
  clear hb q0 q1 q2 q3 q4 q5 q6 q7 q8 l0 l1 l2 l3 l4 r0 s1 k2' k3'
  obtain ⟨q0, q1, q2, q3, q4, q5, q6, q7, q8⟩ := sg_box HX4.out
  obtain ⟨⟨n0, n1, n2, n3, n4, n5, n6, n7, n8, n9⟩, f0, f1, f2, f3, f4, f5, f6, f7, f8, f9⟩ := sg_res HX4.out
  have l0 : w.heap.size < w4.heap.size := by omega
  have l1 : w.heap.size + 1 < w4.heap.size := by omega
  go_wp2_with fail
  refine finCellsA (w := w4) (w.heap.size + 1) (ntL a A c (some ⟨w4.heap.size, 0, none⟩) 2 2) (.tuple #[.agg (ntL a A c (some ⟨w4.heap.size, 0, none⟩) 2 2).toArray, .bool true]) rfl l1 ?_ ?_ (show SgT a A c [(0, d1), (1, d2)] w _ _ from ⟨some ⟨w4.heap.size, 0, none⟩, 2, rfl, ?_, ?_⟩)
  · intro W hW
    have r0 := hW 0 (by simp)
    have r1 := hW 1 (by simp)
    have r2 := hW 2 (by simp)
    have r3 := hW 3 (by simp)
    have r4 := hW 4 (by simp)
    have r5 := hW 5 (by simp)
    have r6 := hW 6 (by simp)
    have r7 := hW 7 (by simp)
    have r8 := hW 8 (by simp)
    have r9 := hW 9 (by simp)
    clear hW
    simp only [List.getElem_cons_zero, List.getElem_cons_succ] at r0 r1 r2 r3 r4 r5 r6 r7 r8 r9
    simp [results, Tryz.results20, go_sem, r0, r1, r2, r3, r4, r5, r6, r7, r8, r9]
  · refine lt10 ?_
    simp [n0, n1, n2, n3, n4, n5, n6, n7, n8, n9]
  · have h := World.ownsRow_lit (base := w.heap.size) (e := 123) (size := 2) (w4.setCells (w.heap.size + 1) 0 (ntL a A c (some ⟨w4.heap.size, 0, none⟩) 2 2)) #[.int .i64 0, .int .i64 d1, .int .i64 1, .int .i64 d2] 2 (by simp [World.setCells]; omega) (by decide) rfl
    simp [World.setCells] at h
    exact h
  · exact (below_setCells (by omega) _ _ _ _ H4.out).alloc (by simp [World.setCells]; omega) _
end Go.Proofs.YtmpbhngjkbidcaaGreatDoor
