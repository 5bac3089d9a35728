/-
  The walks of the functions that ask whether an alert is valid.
-/
import Derived.Test.YtmpbhngjkbidcaaGreatDoorW01
import Derived.Deep.DeepCutAuto
import Derived.Test.YtmpbhngjkbidcaaGreatDoorW08
import Derived.Test.YtmpbhngjkbidcaaGreatDoorProg
import Derived.Lib.Strings
import Derived.Lib.Slices
import Derived.Lib.Walk
import Derived.Lib.Builder
import Derived.Lib.AppendStr
import Derived.Lib.UnsafeStr
import Derived.WalkKit
import Derived.Laws.Externs
import Derived.KernelRfl
namespace Go.Proofs.YtmpbhngjkbidcaaGreatDoor
open Go.RowKit Al

/-- An alert as a value: its cells are the slice '.slice A n c'. -/
@[reducible] def Al.Alr.val (a : Alr) (A : Option Addr) (c : Nat) : Value :=
  .agg #[.string a.ev, .int .i64 a.ver, .int .i64 a.tm, .int .i64 a.n, .int .i64 a.of, .int .i64 a.grid, .slice A a.cells.length c, .bool a.wd, .int .i64 a.before]

theorem skyGrid_ (n : Int) (w : World) :
    Calls Tryz.prog 75 #[.int .i64 n] w fun e w' => e = .returned (.bool (inB n 1 8)) ∧ w = w' := by
  go_enter Tryz.func75, Tryz.ntmps75
  go_wp2_with (go_at_call 38; refine (swithin_ _ _ _ _).mono ?_; rintro e w' ⟨rfl, rfl⟩)
  go_ret
  exact ⟨rfl, rfl⟩
theorem skyCells_yes (n : Int) (h : inB n 1 8 = true) (w : World) :
    Calls Tryz.prog 87 #[.int .i64 n] w fun e w' => e = .returned (.tuple #[.int .i64 (manyCells n), .int .i64 0]) ∧ w = w' := by
  have hb := inB_true.1 h
  have H := Lib.hid h
  have e1 := Int.mul_le_mul_of_nonneg_right (show 6 * n ≤ 48 by omega) (show 0 ≤ n by omega)
  have e2 := Int.mul_nonneg (show 0 ≤ 6 * n by omega) (show 0 ≤ n by omega)
  clear h
  go_enter Tryz.func87, Tryz.ntmps87
  go_wp2_with (go_at_call 75; refine (skyGrid_ _ _).mono ?_; rintro e w' ⟨rfl, rfl⟩; rw [H.out])
  go_ret2
  exact ⟨rfl, rfl⟩
theorem skyCells_no (n : Int) (h : inB n 1 8 = false) (w : World) :
    Calls Tryz.prog 87 #[.int .i64 n] w fun e w' => e = .returned (.tuple #[.int .i64 0, .int .i64 91]) ∧ w = w' := by
  have H := Lib.hid h
  clear h
  go_enter Tryz.func87, Tryz.ntmps87
  go_wp2_with (go_at_call 75; refine (skyGrid_ _ _).mono ?_; rintro e w' ⟨rfl, rfl⟩; rw [H.out])
  go_ret2
  exact ⟨rfl, rfl⟩

def RiseRel (a : Alr) (l i : Value) : Prop := ∃ (k : Nat) (last : Int), k ≤ a.cells.length ∧ l = .int .i64 last ∧ i = .int .i64 k ∧ Hid (rising last (manyCells a.grid) (a.cells.drop k) = rising (-1) (manyCells a.grid) (a.cells.drop 0))
set_option maxHeartbeats 1000000 in
theorem valid_ (a : Alr) (A : Option Addr) (c B : Nat) (w : World) (hs : a.ev.size ≤ maxLen) (h : Sl w B 1 A a.cells.length c (ints a.cells)) (hB : B ≤ w.heap.size) :
    Calls Tryz.prog 52 #[a.val A c] w fun e w' => e = .returned (.bool (okA a)) ∧ Below w.heap.size w w' := by
  by_cases hg : inB a.grid 1 8 = true
  · have Hg := Lib.hid hg
    have HE := Lib.hid hs
    clear hg hs
    go_enter Tryz.func52, Tryz.ntmps52
    go_wp2_with (first
      | (go_at_call 87; refine (skyCells_yes _ Hg.out _).mono ?_; rintro e w' ⟨rfl, rfl⟩)
      | (go_at_call 88; refine (isName_ _ _ HE.out).mono ?_; rintro e w' ⟨rfl, rfl⟩)
      | (go_at_call 71; refine (within_ _ _ _ _).mono ?_; rintro e w' ⟨rfl, rfl⟩))
    all_goals try (go_ret; exact ⟨ret_bool (okA_not (fun hk => by obtain ⟨_, k1, k2, k3, k4, k5, k6, _⟩ := okA_parts hk; first | contradiction | omega | (simp_all; done))).symm, (by repeat (first | exact Below.refl _ _ | assumption | refine below_drewN ?_ _ | refine Below.drew ?_ | refine Below.setCell ?_ (by first | omega | (simp; done) | (simp; omega)) _ | refine Below.alloc ?_ (by first | omega | (simp; done) | (simp; omega)) _))⟩)
    have HO : Hid (okA a = (rising (-1) (manyCells a.grid) (a.cells.drop 0) && (if a.ver = 1 then decide (a.before = 0) else inB a.before 0 2147483646))) :=
      okA_of Hg.out (by assumption) (by assumption) (by assumption) (by assumption) (by assumption) (by simp_all)
    have hlen : a.cells.length ≤ maxLen := Nat.le_trans h.cap h.max
    unfold maxLen at hlen
    have hmany : Hid (manyCells a.grid = manyCells a.grid) := rfl
    go_loop [6, 61] (fun l i => RiseRel a l i) (fun _ i => a.cells.length - (intOf i).toNat)
    case atStart => exact ⟨0, -1, Nat.zero_le _, rfl, rfl, rfl⟩
    case round =>
      obtain ⟨k, last, hk, rfl, rfl, hp⟩ := hrel
      by_cases hlt : k < a.cells.length
      · obtain ⟨b, off, rfl, hb, hc⟩ := h.int_at hlt hlt
        have hne : b < w.heap.size := by omega
        by_cases h1 : last < a.cells[k]
        · by_cases h2 : a.cells[k] < manyCells a.grid
          · have HN : Hid (rising a.cells[k] (manyCells a.grid) (a.cells.drop (k + 1)) = rising (-1) (manyCells a.grid) (a.cells.drop 0)) := by
              show _ = _
              rw [← hp.out, rising_go hlt h1 h2]
            go_wp2
            go_round
            case rel => (first | exact ⟨k + 1, a.cells[k], by omega, rfl, by go_num, HN⟩ | ((repeat apply Exists.intro); refine ⟨⟨k + 1, a.cells[k], by omega, rfl, by go_num, HN⟩, ?_⟩; (repeat refine ⟨rfl, ?_⟩); exact rfl))
            case measure => simp [intOf]; omega
          · have HN : Hid (okA a = false) := by
              show _ = _
              rw [HO.out, ← hp.out, rising_ge hlt h2]; rfl
            go_wp2
            go_ret
            exact ⟨ret_bool HN.out.symm, (by repeat (first | exact Below.refl _ _ | assumption | refine below_drewN ?_ _ | refine Below.drew ?_ | refine Below.setCell ?_ (by first | omega | (simp; done) | (simp; omega)) _ | refine Below.alloc ?_ (by first | omega | (simp; done) | (simp; omega)) _))⟩
        · have HN : Hid (okA a = false) := by
            show _ = _
            rw [HO.out, ← hp.out, rising_lt hlt h1]; rfl
          go_wp2
          go_ret
          exact ⟨ret_bool HN.out.symm, (by repeat (first | exact Below.refl _ _ | assumption | refine below_drewN ?_ _ | refine Below.drew ?_ | refine Below.setCell ?_ (by first | omega | (simp; done) | (simp; omega)) _ | refine Below.alloc ?_ (by first | omega | (simp; done) | (simp; omega)) _))⟩
      · obtain rfl : k = a.cells.length := by omega
        have HR : Hid (okA a = (if a.ver = 1 then decide (a.before = 0) else inB a.before 0 2147483646)) := by
          show _ = _
          rw [HO.out, ← hp.out, rising_end]; rfl
        by_cases hv : a.ver = 1
        · have HV : Hid (okA a = (a.before == 0)) := by
            show _ = _
            rw [HR.out, if_pos hv]
            rfl
          have hv' : (a.ver == 1) = true := by simpa using hv
          clear hv
          go_wp2
          go_ret
          exact ⟨ret_bool HV.out.symm, (by repeat (first | exact Below.refl _ _ | assumption | refine below_drewN ?_ _ | refine Below.drew ?_ | refine Below.setCell ?_ (by first | omega | (simp; done) | (simp; omega)) _ | refine Below.alloc ?_ (by first | omega | (simp; done) | (simp; omega)) _))⟩
        · have HV : Hid (okA a = inB a.before 0 2147483646) := by
            show _ = _
            rw [HR.out, if_neg hv]
          have hv' : (a.ver == 1) = false := by simpa using hv
          clear hv
          go_wp2_with (go_at_call 71; refine (within_ _ _ _ _).mono ?_; rintro e w' ⟨rfl, rfl⟩)
          go_ret
          exact ⟨ret_bool HV.out.symm, (by repeat (first | exact Below.refl _ _ | assumption | refine below_drewN ?_ _ | refine Below.drew ?_ | refine Below.setCell ?_ (by first | omega | (simp; done) | (simp; omega)) _ | refine Below.alloc ?_ (by first | omega | (simp; done) | (simp; omega)) _))⟩
  · have hg' : inB a.grid 1 8 = false := by simpa using hg
    have Hg := Lib.hid hg'
    clear hg hg'
    go_enter Tryz.func52, Tryz.ntmps52
    go_wp2_with (go_at_call 87; refine (skyCells_no _ Hg.out _).mono ?_; rintro e w' ⟨rfl, rfl⟩)
    go_ret
    exact ⟨ret_bool (by simp [okA, Hg.out]), (by repeat (first | exact Below.refl _ _ | assumption | refine below_drewN ?_ _ | refine Below.drew ?_ | refine Below.setCell ?_ (by first | omega | (simp; done) | (simp; omega)) _ | refine Below.alloc ?_ (by first | omega | (simp; done) | (simp; omega)) _))⟩
end Go.Proofs.YtmpbhngjkbidcaaGreatDoor

/-
  The walks of the lines of an alert.
-/
namespace Go.Proofs.YtmpbhngjkbidcaaGreatDoor
open Go.RowKit Al

theorem sl_one (w : World) (b : Nat) (n : Int) (h : w.cell? ⟨b, 0, none⟩ = some (.int .i64 n)) : Sl w (b + 1) 1 (some ⟨b, 0, none⟩) 1 1 (ints [n]) :=
  ⟨rfl, Nat.le_refl _, by unfold maxLen; omega, (fun h => by cases h), fun _ => ⟨b, 0, rfl, by omega, fun j u hu => by
    match j, hu with
    | 0, hu => cases hu; exact h
    | j + 1, hu => simp [ints] at hu⟩⟩
theorem sl_two (w : World) (b : Nat) (n m : Int) (h : w.cell? ⟨b, 0, none⟩ = some (.int .i64 n)) (h' : w.cell? ⟨b, 1, none⟩ = some (.int .i64 m)) : Sl w (b + 1) 1 (some ⟨b, 0, none⟩) 2 2 (ints [n, m]) :=
  ⟨rfl, Nat.le_refl _, by unfold maxLen; omega, (fun h => by cases h), fun _ => ⟨b, 0, rfl, by omega, fun j u hu => by
    match j, hu with
    | 0, hu => cases hu; exact h
    | 1, hu => cases hu; exact h'
    | j + 2, hu => simp [ints] at hu⟩⟩
/-- What a line's function hands back. -/
def LineRet (l : List UInt8) (w : World) (e : Ending) (w' : World) : Prop := ∃ t : ByteArray, e = .returned (.string t) ∧ Hid (t.data.toList = l) ∧ t.size ≤ 8192 ∧ Below w.heap.size w w'

theorem row1_ (word : ByteArray) (n : Int) (b : Nat) (w : World) (hw : word.size ≤ 1048576) (hf : 0 ≤ n ∧ n ≤ 2147483647) (hc : w.cell? ⟨b, 0, none⟩ = some (.int .i64 n)) (hb : b < w.heap.size) (ht : Tab w) (h3 : 8 ≤ w.heap.size) :
    Calls Tryz.prog 120 #[.string word, .slice (some ⟨b, 0, none⟩) 1 1] w fun e w' => ∃ t : ByteArray, e = .returned (.string t) ∧ Hid (t.data.toList = rowL word.data.toList [n]) ∧ t.size ≤ word.size + 11 * 1 ∧ Below w.heap.size w w' :=
  row_ word [n] _ 1 (b + 1) w hw (by simp) (fine1 hf) (sl_one w b n hc) hb ht h3
theorem row2_ (word : ByteArray) (n m : Int) (b : Nat) (w : World) (hw : word.size ≤ 1048576) (hf : 0 ≤ n ∧ n ≤ 2147483647) (hf' : 0 ≤ m ∧ m ≤ 2147483647) (hc : w.cell? ⟨b, 0, none⟩ = some (.int .i64 n)) (hc' : w.cell? ⟨b, 1, none⟩ = some (.int .i64 m)) (hb : b < w.heap.size) (ht : Tab w) (h3 : 8 ≤ w.heap.size) :
    Calls Tryz.prog 120 #[.string word, .slice (some ⟨b, 0, none⟩) 2 2] w fun e w' => ∃ t : ByteArray, e = .returned (.string t) ∧ Hid (t.data.toList = rowL word.data.toList [n, m]) ∧ t.size ≤ word.size + 11 * 2 ∧ Below w.heap.size w w' :=
  row_ word [n, m] _ 2 (b + 1) w hw (by simp) (fine2 hf hf') (sl_two w b n m hc hc') hb ht h3

set_option maxRecDepth 100000 in
theorem head_ (a : Alr) (A : Option Addr) (c : Nat) (w : World) (hg : AlGood a) (ht : Tab w) (h3 : 8 ≤ w.heap.size) :
    Calls Tryz.prog 89 #[a.val A c] w (LineRet (headL a) w) := by
  have hev := hg.ev
  have HG := Lib.hid hg
  have HT := Lib.hid ht
  clear hg ht
  go_enter Tryz.func89, Tryz.ntmps89
  go_wp2_with fail
  refine (row1_ _ a.ver _ _ (by simp [ByteArray.size_append, ByteArray.size_mk']; omega) HG.out.ver (by simp) (by simp) (HT.out.below (B := w.heap.size) (by omega) (by repeat (first | exact Below.refl _ _ | assumption | refine below_drewN ?_ _ | refine Below.drew ?_ | refine Below.setCell ?_ (by first | omega | (simp; done) | (simp; omega)) _ | refine Below.alloc ?_ (by first | omega | (simp; done) | (simp; omega)) _))) (by simp; omega)).mono ?_
  rintro e w1 ⟨t, rfl, h1, h2, h4⟩
  go_wp2
  go_ret
  exact ⟨t, rfl, by show _ = _; rw [h1.out, str_add]; rfl, by rw [ByteArray.size_append] at h2; simp [ByteArray.size_mk'] at h2; omega, (show Below w.heap.size w _ from (by repeat (first | exact Below.refl _ _ | assumption | refine below_drewN ?_ _ | refine Below.drew ?_ | refine Below.setCell ?_ (by first | omega | (simp; done) | (simp; omega)) _ | refine Below.alloc ?_ (by first | omega | (simp; done) | (simp; omega)) _))).trans (h4.mono (by simp; omega))⟩
set_option maxRecDepth 100000 in
theorem time_ (a : Alr) (A : Option Addr) (c : Nat) (w : World) (hg : AlGood a) (ht : Tab w) (h3 : 8 ≤ w.heap.size) :
    Calls Tryz.prog 90 #[a.val A c] w (LineRet (timeL a) w) := by
  have HG := Lib.hid hg
  have HT := Lib.hid ht
  clear hg ht
  go_enter Tryz.func90, Tryz.ntmps90
  go_wp2_with fail
  refine (row1_ _ a.tm _ _ (by simp [ByteArray.size_mk']) HG.out.tm (by simp) (by simp) (HT.out.below (B := w.heap.size) (by omega) (by repeat (first | exact Below.refl _ _ | assumption | refine below_drewN ?_ _ | refine Below.drew ?_ | refine Below.setCell ?_ (by first | omega | (simp; done) | (simp; omega)) _ | refine Below.alloc ?_ (by first | omega | (simp; done) | (simp; omega)) _))) (by simp; omega)).mono ?_
  rintro e w1 ⟨t, rfl, h1, h2, h4⟩
  go_wp2
  go_ret
  exact ⟨t, rfl, h1, by simp [ByteArray.size_mk'] at h2; omega, (show Below w.heap.size w _ from (by repeat (first | exact Below.refl _ _ | assumption | refine below_drewN ?_ _ | refine Below.drew ?_ | refine Below.setCell ?_ (by first | omega | (simp; done) | (simp; omega)) _ | refine Below.alloc ?_ (by first | omega | (simp; done) | (simp; omega)) _))).trans (h4.mono (by simp; omega))⟩
set_option maxRecDepth 100000 in
theorem grid_ (a : Alr) (A : Option Addr) (c : Nat) (w : World) (hg : AlGood a) (ht : Tab w) (h3 : 8 ≤ w.heap.size) :
    Calls Tryz.prog 92 #[a.val A c] w (LineRet (gridL a) w) := by
  have HG := Lib.hid hg
  have HT := Lib.hid ht
  clear hg ht
  go_enter Tryz.func92, Tryz.ntmps92
  go_wp2_with fail
  refine (row1_ _ a.grid _ _ (by simp [ByteArray.size_mk']) HG.out.grid (by simp) (by simp) (HT.out.below (B := w.heap.size) (by omega) (by repeat (first | exact Below.refl _ _ | assumption | refine below_drewN ?_ _ | refine Below.drew ?_ | refine Below.setCell ?_ (by first | omega | (simp; done) | (simp; omega)) _ | refine Below.alloc ?_ (by first | omega | (simp; done) | (simp; omega)) _))) (by simp; omega)).mono ?_
  rintro e w1 ⟨t, rfl, h1, h2, h4⟩
  go_wp2
  go_ret
  exact ⟨t, rfl, h1, by simp [ByteArray.size_mk'] at h2; omega, (show Below w.heap.size w _ from (by repeat (first | exact Below.refl _ _ | assumption | refine below_drewN ?_ _ | refine Below.drew ?_ | refine Below.setCell ?_ (by first | omega | (simp; done) | (simp; omega)) _ | refine Below.alloc ?_ (by first | omega | (simp; done) | (simp; omega)) _))).trans (h4.mono (by simp; omega))⟩
set_option maxRecDepth 100000 in
theorem before_ (a : Alr) (A : Option Addr) (c : Nat) (w : World) (hg : AlGood a) (ht : Tab w) (h3 : 8 ≤ w.heap.size) :
    Calls Tryz.prog 94 #[a.val A c] w (LineRet (beforeL a) w) := by
  have HG := Lib.hid hg
  have HT := Lib.hid ht
  clear hg ht
  go_enter Tryz.func94, Tryz.ntmps94
  go_wp2_with fail
  refine (row1_ _ a.before _ _ (by simp [ByteArray.size_mk']) HG.out.before (by simp) (by simp) (HT.out.below (B := w.heap.size) (by omega) (by repeat (first | exact Below.refl _ _ | assumption | refine below_drewN ?_ _ | refine Below.drew ?_ | refine Below.setCell ?_ (by first | omega | (simp; done) | (simp; omega)) _ | refine Below.alloc ?_ (by first | omega | (simp; done) | (simp; omega)) _))) (by simp; omega)).mono ?_
  rintro e w1 ⟨t, rfl, h1, h2, h4⟩
  go_wp2
  go_ret
  exact ⟨t, rfl, h1, by simp [ByteArray.size_mk'] at h2; omega, (show Below w.heap.size w _ from (by repeat (first | exact Below.refl _ _ | assumption | refine below_drewN ?_ _ | refine Below.drew ?_ | refine Below.setCell ?_ (by first | omega | (simp; done) | (simp; omega)) _ | refine Below.alloc ?_ (by first | omega | (simp; done) | (simp; omega)) _))).trans (h4.mono (by simp; omega))⟩
set_option maxRecDepth 100000 in
theorem chance_ (a : Alr) (A : Option Addr) (c : Nat) (w : World) (hg : AlGood a) (ht : Tab w) (h3 : 8 ≤ w.heap.size) :
    Calls Tryz.prog 91 #[a.val A c] w (LineRet (chanceL a) w) := by
  have HG := Lib.hid hg
  have HT := Lib.hid ht
  clear hg ht
  go_enter Tryz.func91, Tryz.ntmps91
  go_wp2_with fail
  refine (row2_ _ a.n a.of _ _ (by simp [ByteArray.size_mk']) HG.out.n HG.out.of (by simp) (by simp) (by simp) (HT.out.below (B := w.heap.size) (by omega) (by repeat (first | exact Below.refl _ _ | assumption | refine below_drewN ?_ _ | refine Below.drew ?_ | refine Below.setCell ?_ (by first | omega | (simp; done) | (simp; omega)) _ | refine Below.alloc ?_ (by first | omega | (simp; done) | (simp; omega)) _))) (by simp; omega)).mono ?_
  rintro e w1 ⟨t, rfl, h1, h2, h4⟩
  go_wp2
  go_ret
  exact ⟨t, rfl, h1, by simp [ByteArray.size_mk'] at h2; omega, (show Below w.heap.size w _ from (by repeat (first | exact Below.refl _ _ | assumption | refine below_drewN ?_ _ | refine Below.drew ?_ | refine Below.setCell ?_ (by first | omega | (simp; done) | (simp; omega)) _ | refine Below.alloc ?_ (by first | omega | (simp; done) | (simp; omega)) _))).trans (h4.mono (by simp; omega))⟩
set_option maxRecDepth 100000 in
theorem where_ (a : Alr) (A : Option Addr) (c B : Nat) (w : World) (hg : AlGood a) (h : Sl w B 1 A a.cells.length c (ints a.cells)) (hB : B ≤ w.heap.size) (ht : Tab w) (h3 : 8 ≤ w.heap.size) :
    Calls Tryz.prog 93 #[a.val A c] w (LineRet (whereL a) w) := by
  have hmany := hg.many
  have HG := Lib.hid hg
  have HT := Lib.hid ht
  have HS := Lib.hid h
  clear hg ht h
  by_cases hw : a.wd = true
  · have HW := Lib.hid hw
    go_enter Tryz.func93, Tryz.ntmps93
    go_wp2_with fail
    go_ret
    exact ⟨_, rfl, by show _ = _; unfold whereL; rw [if_pos HW.out], by simp [ByteArray.size_mk'], (by repeat (first | exact Below.refl _ _ | assumption | refine below_drewN ?_ _ | refine Below.drew ?_ | refine Below.setCell ?_ (by first | omega | (simp; done) | (simp; omega)) _ | refine Below.alloc ?_ (by first | omega | (simp; done) | (simp; omega)) _))⟩
  · have hw' : a.wd = false := by simpa using hw
    have HW := Lib.hid hw
    clear hw
    go_enter Tryz.func93, Tryz.ntmps93
    go_wp2_with fail
    refine (row_ _ a.cells _ c B _ (by simp [ByteArray.size_mk']) (by omega) HG.out.cells (HS.out.alloc hB _) (by simp; omega) (HT.out.below (B := w.heap.size) (by omega) (by repeat (first | exact Below.refl _ _ | assumption | refine below_drewN ?_ _ | refine Below.drew ?_ | refine Below.setCell ?_ (by first | omega | (simp; done) | (simp; omega)) _ | refine Below.alloc ?_ (by first | omega | (simp; done) | (simp; omega)) _))) (by simp; omega)).mono ?_
    rintro e w1 ⟨t, rfl, h1, h2, h4⟩
    go_wp2
    go_ret
    exact ⟨t, rfl, by show _ = _; unfold whereL; rw [if_neg HW.out, h1.out], by simp [ByteArray.size_mk'] at h2; omega, (show Below w.heap.size w _ from (by repeat (first | exact Below.refl _ _ | assumption | refine below_drewN ?_ _ | refine Below.drew ?_ | refine Below.setCell ?_ (by first | omega | (simp; done) | (simp; omega)) _ | refine Below.alloc ?_ (by first | omega | (simp; done) | (simp; omega)) _))).trans (h4.mono (by simp))⟩
theorem end_ (a : Alr) (A : Option Addr) (c : Nat) (w : World) :
    Calls Tryz.prog 95 #[a.val A c] w (LineRet endL w) := by
  go_enter Tryz.func95, Tryz.ntmps95
  go_wp2_with fail
  go_ret
  exact ⟨_, rfl, rfl, by simp [ByteArray.size_mk'], (by repeat (first | exact Below.refl _ _ | assumption | refine below_drewN ?_ _ | refine Below.drew ?_ | refine Below.setCell ?_ (by first | omega | (simp; done) | (simp; omega)) _ | refine Below.alloc ?_ (by first | omega | (simp; done) | (simp; omega)) _))⟩
end Go.Proofs.YtmpbhngjkbidcaaGreatDoor

/-
  The walks of strings.Builder's WriteString over this translation (after the shelf's Any.Builder_WriteString; its copyCheck bears a refused statement here, so the shelf's own laying does not fit).
-/
namespace Go.Proofs.YtmpbhngjkbidcaaGreatDoor
open Go.RowKit

theorem sizeBld : (Tryz.prog.info? 174).map (·.size) = some 2 := by kernel_rfl
theorem liesBld : liesAt Tryz.prog Tryz.prog.depth 174 (2 / Tryz.prog.cellsOf 174) 0 174 1 = true := by kernel_rfl
theorem infoByte : (Tryz.prog.info? 5).map (fun i => (i.zero, i.size, i.bytes)) = some (some (.int .u8 0), 1, 1) := by kernel_rfl

set_option maxRecDepth 100000 in
theorem bldCheck_used (b : Nat) (w : World) (h0 : w.cell? ⟨b, 0, none⟩ = some (.pointer (some ⟨b, 0, none⟩))) :
    Calls Tryz.prog 121 #[.pointer (some ⟨b, 0, none⟩)] w fun e w' => e = .returned (.tuple #[]) ∧ w' = w := by
  obtain ⟨j, hj, _⟩ := Option.map_eq_some_iff.1 sizeBld
  go_enter Tryz.func121, Tryz.ntmps121
  go_wp2
  rw [Lib.run_neq_ptr_same w _ Tryz.underlying172 hj]
  go_wp2
  go_end0
  exact ⟨rfl, rfl⟩
set_option maxRecDepth 100000 in
theorem bldCheck_fresh (b : Nat) (w : World) (h0 : w.cell? ⟨b, 0, none⟩ = some (.pointer none)) (hsh : w.shape? b = some (174, 2)) (hfz : w.frozen? ⟨b, 0, none⟩ = false) :
    Calls Tryz.prog 121 #[.pointer (some ⟨b, 0, none⟩)] w fun e w' => e = .returned (.tuple #[]) ∧ w' = w.setCell ⟨b, 0, none⟩ (.pointer (some ⟨b, 0, none⟩)) := by
  obtain ⟨j, hj, hjs⟩ := Option.map_eq_some_iff.1 sizeBld
  go_enter Tryz.func121, Tryz.ntmps121
  go_wp2
  rw [Lib.run_to_unsafe w ⟨b, 0, none⟩ Tryz.underlying172 Tryz.underlying211 hj (by rw [hjs]; decide) hsh (Nat.zero_lt_succ 1)]
  simp only [Result.andThen]
  rw [Oper.upon_value]
  go_wp2
  rw [run_callFunc_extern Tryz.func141 (by kernel_rfl) (by kernel_rfl) (by kernel_rfl) (e := Extern.AbiNoEscape.same) (by kernel_rfl)]
  rw [Lib.run_noEscape]
  simp only [Result.andThen]
  rw [Oper.upon_value]
  go_wp2
  rw [Lib.run_from_unsafe w ⟨b, 0, none⟩ Tryz.underlying211 Tryz.underlying172 hj hsh liesBld]
  simp only [Result.andThen]
  rw [Oper.upon_value]
  go_wp2
  go_end0
  exact ⟨rfl, rfl⟩
theorem bldCheck (B b : Nat) (bs : List Value) (w : World) (h : Lib.IsBuilder 174 5 B b bs w) :
    Calls Tryz.prog 121 #[.pointer (some ⟨b, 0, none⟩)] w fun e w' => e = .returned (.tuple #[]) ∧ (Lib.BuilderAt 174 5 B b (.pointer (some ⟨b, 0, none⟩)) bs w' ∧ Below B w w') := by
  rcases h with h | h
  · refine (bldCheck_fresh b w h.cell0 h.shape h.frozen0).mono ?_
    rintro e w' ⟨rfl, rfl⟩
    exact ⟨rfl, h.used _, (Below.refl B w).setCell (p := ⟨b, 0, none⟩) h.1 _⟩
  · refine (bldCheck_used b w h.cell0).mono ?_
    rintro e w' ⟨rfl, rfl⟩
    exact ⟨rfl, h, Below.refl B _⟩
set_option maxRecDepth 100000 in
set_option maxHeartbeats 1000000 in
/-- WriteString appends the bytes. -/
theorem bldWrite (B b : Nat) (bs : List Value) (s : ByteArray) (w : World) (h : Lib.IsBuilder 174 5 B b bs w) (hlen : bs.length + s.size ≤ 140737488355328) (hBw : B ≤ w.heap.size) :
    Calls Tryz.prog 96 #[.pointer (some ⟨b, 0, none⟩), .string s] w fun e w' => e = .returned (.tuple #[.int .i64 s.size, .nilIface]) ∧ (Lib.BuilderAt 174 5 B b (.pointer (some ⟨b, 0, none⟩)) (bs ++ Lib.strCells s) w' ∧ Below B w w') := by
  obtain ⟨i0, hi, hz0, hz1, hz2⟩ := info_parts infoByte
  go_enter Tryz.func96, Tryz.ntmps96
  go_wp2_with (go_at_call 121; refine (bldCheck B b bs _ h).mono ?_)
  rintro e w1 ⟨rfl, h1, hb1⟩
  obtain ⟨hB, v, hbk, hown, hne⟩ := h1
  have c0 : w1.cell? ⟨b, 0, none⟩ = some (.pointer (some ⟨b, 0, none⟩)) := by rw [Lib.cell_of_heap hbk]; rfl
  have c1 : w1.cell? ⟨b, 1, none⟩ = some v := by rw [Lib.cell_of_heap hbk]; rfl
  go_wp2_with (at_builtin; refine Lib.wpList_append_own_string _ rfl _ _ 167 9 rfl B 5 i0 Tryz.underlying167 Tryz.underlying9 hi hz0 hz1 hz2 _ _ _ rfl hown s rfl ?c3 ?c4 ?c5 ?_)
  case c3 => unfold maxLen; omega
  case c4 => omega
  case c5 => have := hb1.size; omega
  intro v' w2 hown' hgrow _
  have hlt : b < w1.heap.size := by
    rcases Nat.lt_or_ge b w1.heap.size with h' | h'
    · exact h'
    · simp [Array.getElem?_eq_none h'] at hbk
  have hb2 : w2.heap[b]? = some (.cells #[.pointer (some ⟨b, 0, none⟩), v] 174 (0, 0)) := by
    rw [hgrow.block b hlt (fun e => hne e.symm)]
    exact hbk
  have d0 : w2.cell? ⟨b, 0, none⟩ = some (.pointer (some ⟨b, 0, none⟩)) := by rw [Lib.cell_of_heap hb2]; rfl
  have d1 : w2.cell? ⟨b, 1, none⟩ = some v := by rw [Lib.cell_of_heap hb2]; rfl
  have f1 : w2.frozen? ⟨b, 1, none⟩ = false := Lib.frozen_of_heap hb2 1
  obtain ⟨ao, n', cap, rfl⟩ : ∃ ao n' cap, v' = .slice ao n' cap := by
    rcases hown'.2 with ⟨hv, _⟩ | ⟨g, cap, cur, hv, _⟩
    · exact ⟨_, _, _, hv⟩
    · exact ⟨_, _, _, hv⟩
  go_wp2
  go_ret2
  refine ⟨rfl, ?_, ?_⟩
  · exact Lib.BuilderAt.put (T := 174) (e := 5) hB hb2 (bs' := bs ++ Lib.strCells s) (by simpa [Lib.strCells_length] using hown') (by decide)
  · exact (hb1.grown hgrow (by have := hb1.size; omega) (fun k hk => (hown.lt k hk).1)).setCell (p := ⟨b, 1, none⟩) hB _
end Go.Proofs.YtmpbhngjkbidcaaGreatDoor
