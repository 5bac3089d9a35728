/-
  The walks of the lines of an alert.
-/
import Derived.Test.YtohfofecbdfkgaaDoorTw
import Derived.Test.YtohfofecbdfkgaaDoorVa
namespace Go.Proofs.YtohfofecbdfkgaaDoor
open Go.RowKit Al

theorem sl_one (w : World) (b : Nat) (n : Int) (h : w.cell? ⟨b, 0, none⟩ = some (.int .i64 n)) : Sl w (b + 1) 1 (some ⟨b, 0, none⟩) 1 1 (ints [n]) :=
  ⟨rfl, Nat.le_refl _, by unfold maxLen; omega, (fun h => by cases h), fun _ => ⟨b, 0, rfl, by omega, fun j u hu => by
    match j, hu with
    | 0, hu => cases hu; exact h
    | j + 1, hu => simp [ints] at hu⟩⟩
theorem sl_two (w : World) (b : Nat) (n m : Int) (h : w.cell? ⟨b, 0, none⟩ = some (.int .i64 n)) (h' : w.cell? ⟨b, 1, none⟩ = some (.int .i64 m)) : Sl w (b + 1) 1 (some ⟨b, 0, none⟩) 2 2 (ints [n, m]) :=
  ⟨rfl, Nat.le_refl _, by unfold maxLen; omega, (fun h => by cases h), fun _ => ⟨b, 0, rfl, by omega, fun j u hu => by
    match j, hu with
    | 0, hu => cases hu; exact h
    | 1, hu => cases hu; exact h'
    | j + 2, hu => simp [ints] at hu⟩⟩
/-- What a line's function hands back. -/
def LineRet (l : List UInt8) (w : World) (e : Ending) (w' : World) : Prop := ∃ t : ByteArray, e = .returned (.string t) ∧ Hid (t.data.toList = l) ∧ t.size ≤ 8192 ∧ Below w.heap.size w w'

theorem row1_ (word : ByteArray) (n : Int) (b : Nat) (w : World) (hw : word.size ≤ 1048576) (hf : 0 ≤ n ∧ n ≤ 2147483647) (hc : w.cell? ⟨b, 0, none⟩ = some (.int .i64 n)) (hb : b < w.heap.size) (ht : Tab w) (h3 : 3 ≤ w.heap.size) :
    Calls Tryd.prog 101 #[.string word, .slice (some ⟨b, 0, none⟩) 1 1] w fun e w' => ∃ t : ByteArray, e = .returned (.string t) ∧ Hid (t.data.toList = rowL word.data.toList [n]) ∧ t.size ≤ word.size + 11 * 1 ∧ Below w.heap.size w w' :=
  row_ word [n] _ 1 (b + 1) w hw (by simp) (fine1 hf) (sl_one w b n hc) hb ht h3
theorem row2_ (word : ByteArray) (n m : Int) (b : Nat) (w : World) (hw : word.size ≤ 1048576) (hf : 0 ≤ n ∧ n ≤ 2147483647) (hf' : 0 ≤ m ∧ m ≤ 2147483647) (hc : w.cell? ⟨b, 0, none⟩ = some (.int .i64 n)) (hc' : w.cell? ⟨b, 1, none⟩ = some (.int .i64 m)) (hb : b < w.heap.size) (ht : Tab w) (h3 : 3 ≤ w.heap.size) :
    Calls Tryd.prog 101 #[.string word, .slice (some ⟨b, 0, none⟩) 2 2] w fun e w' => ∃ t : ByteArray, e = .returned (.string t) ∧ Hid (t.data.toList = rowL word.data.toList [n, m]) ∧ t.size ≤ word.size + 11 * 2 ∧ Below w.heap.size w w' :=
  row_ word [n, m] _ 2 (b + 1) w hw (by simp) (fine2 hf hf') (sl_two w b n m hc hc') hb ht h3

set_option maxRecDepth 100000 in
theorem head_ (a : Alr) (A : Option Addr) (c : Nat) (w : World) (hg : AlGood a) (ht : Tab w) (h3 : 3 ≤ w.heap.size) :
    Calls Tryd.prog 90 #[a.val A c] w (LineRet (headL a) w) := by
  have hev := hg.ev
  have HG := Lib.hid hg
  have HT := Lib.hid ht
  clear hg ht
  go_enter Tryd.func90, Tryd.ntmps90
  go_wp2_with fail
  refine (row1_ _ a.ver _ _ (by simp [ByteArray.size_append, ByteArray.size_mk']; omega) HG.out.ver (by simp) (by simp) (HT.out.below (B := w.heap.size) (by omega) (by repeat (first | exact Below.refl _ _ | assumption | refine below_drewN ?_ _ | refine Below.drew ?_ | refine Below.setCell ?_ (by first | omega | (simp; done) | (simp; omega)) _ | refine Below.alloc ?_ (by first | omega | (simp; done) | (simp; omega)) _))) (by simp; omega)).mono ?_
  rintro e w1 ⟨t, rfl, h1, h2, h4⟩
  go_wp2
  go_ret
  exact ⟨t, rfl, by show _ = _; rw [h1.out, str_add]; rfl, by rw [ByteArray.size_append] at h2; simp [ByteArray.size_mk'] at h2; omega, (show Below w.heap.size w _ from (by repeat (first | exact Below.refl _ _ | assumption | refine below_drewN ?_ _ | refine Below.drew ?_ | refine Below.setCell ?_ (by first | omega | (simp; done) | (simp; omega)) _ | refine Below.alloc ?_ (by first | omega | (simp; done) | (simp; omega)) _))).trans (h4.mono (by simp; omega))⟩
set_option maxRecDepth 100000 in
theorem time_ (a : Alr) (A : Option Addr) (c : Nat) (w : World) (hg : AlGood a) (ht : Tab w) (h3 : 3 ≤ w.heap.size) :
    Calls Tryd.prog 91 #[a.val A c] w (LineRet (timeL a) w) := by
  have HG := Lib.hid hg
  have HT := Lib.hid ht
  clear hg ht
  go_enter Tryd.func91, Tryd.ntmps91
  go_wp2_with fail
  refine (row1_ _ a.tm _ _ (by simp [ByteArray.size_mk']) HG.out.tm (by simp) (by simp) (HT.out.below (B := w.heap.size) (by omega) (by repeat (first | exact Below.refl _ _ | assumption | refine below_drewN ?_ _ | refine Below.drew ?_ | refine Below.setCell ?_ (by first | omega | (simp; done) | (simp; omega)) _ | refine Below.alloc ?_ (by first | omega | (simp; done) | (simp; omega)) _))) (by simp; omega)).mono ?_
  rintro e w1 ⟨t, rfl, h1, h2, h4⟩
  go_wp2
  go_ret
  exact ⟨t, rfl, h1, by simp [ByteArray.size_mk'] at h2; omega, (show Below w.heap.size w _ from (by repeat (first | exact Below.refl _ _ | assumption | refine below_drewN ?_ _ | refine Below.drew ?_ | refine Below.setCell ?_ (by first | omega | (simp; done) | (simp; omega)) _ | refine Below.alloc ?_ (by first | omega | (simp; done) | (simp; omega)) _))).trans (h4.mono (by simp; omega))⟩
set_option maxRecDepth 100000 in
theorem grid_ (a : Alr) (A : Option Addr) (c : Nat) (w : World) (hg : AlGood a) (ht : Tab w) (h3 : 3 ≤ w.heap.size) :
    Calls Tryd.prog 93 #[a.val A c] w (LineRet (gridL a) w) := by
  have HG := Lib.hid hg
  have HT := Lib.hid ht
  clear hg ht
  go_enter Tryd.func93, Tryd.ntmps93
  go_wp2_with fail
  refine (row1_ _ a.grid _ _ (by simp [ByteArray.size_mk']) HG.out.grid (by simp) (by simp) (HT.out.below (B := w.heap.size) (by omega) (by repeat (first | exact Below.refl _ _ | assumption | refine below_drewN ?_ _ | refine Below.drew ?_ | refine Below.setCell ?_ (by first | omega | (simp; done) | (simp; omega)) _ | refine Below.alloc ?_ (by first | omega | (simp; done) | (simp; omega)) _))) (by simp; omega)).mono ?_
  rintro e w1 ⟨t, rfl, h1, h2, h4⟩
  go_wp2
  go_ret
  exact ⟨t, rfl, h1, by simp [ByteArray.size_mk'] at h2; omega, (show Below w.heap.size w _ from (by repeat (first | exact Below.refl _ _ | assumption | refine below_drewN ?_ _ | refine Below.drew ?_ | refine Below.setCell ?_ (by first | omega | (simp; done) | (simp; omega)) _ | refine Below.alloc ?_ (by first | omega | (simp; done) | (simp; omega)) _))).trans (h4.mono (by simp; omega))⟩
set_option maxRecDepth 100000 in
theorem before_ (a : Alr) (A : Option Addr) (c : Nat) (w : World) (hg : AlGood a) (ht : Tab w) (h3 : 3 ≤ w.heap.size) :
    Calls Tryd.prog 95 #[a.val A c] w (LineRet (beforeL a) w) := by
  have HG := Lib.hid hg
  have HT := Lib.hid ht
  clear hg ht
  go_enter Tryd.func95, Tryd.ntmps95
  go_wp2_with fail
  refine (row1_ _ a.before _ _ (by simp [ByteArray.size_mk']) HG.out.before (by simp) (by simp) (HT.out.below (B := w.heap.size) (by omega) (by repeat (first | exact Below.refl _ _ | assumption | refine below_drewN ?_ _ | refine Below.drew ?_ | refine Below.setCell ?_ (by first | omega | (simp; done) | (simp; omega)) _ | refine Below.alloc ?_ (by first | omega | (simp; done) | (simp; omega)) _))) (by simp; omega)).mono ?_
  rintro e w1 ⟨t, rfl, h1, h2, h4⟩
  go_wp2
  go_ret
  exact ⟨t, rfl, h1, by simp [ByteArray.size_mk'] at h2; omega, (show Below w.heap.size w _ from (by repeat (first | exact Below.refl _ _ | assumption | refine below_drewN ?_ _ | refine Below.drew ?_ | refine Below.setCell ?_ (by first | omega | (simp; done) | (simp; omega)) _ | refine Below.alloc ?_ (by first | omega | (simp; done) | (simp; omega)) _))).trans (h4.mono (by simp; omega))⟩
set_option maxRecDepth 100000 in
theorem chance_ (a : Alr) (A : Option Addr) (c : Nat) (w : World) (hg : AlGood a) (ht : Tab w) (h3 : 3 ≤ w.heap.size) :
    Calls Tryd.prog 92 #[a.val A c] w (LineRet (chanceL a) w) := by
  have HG := Lib.hid hg
  have HT := Lib.hid ht
  clear hg ht
  go_enter Tryd.func92, Tryd.ntmps92
  go_wp2_with fail
  refine (row2_ _ a.n a.of _ _ (by simp [ByteArray.size_mk']) HG.out.n HG.out.of (by simp) (by simp) (by simp) (HT.out.below (B := w.heap.size) (by omega) (by repeat (first | exact Below.refl _ _ | assumption | refine below_drewN ?_ _ | refine Below.drew ?_ | refine Below.setCell ?_ (by first | omega | (simp; done) | (simp; omega)) _ | refine Below.alloc ?_ (by first | omega | (simp; done) | (simp; omega)) _))) (by simp; omega)).mono ?_
  rintro e w1 ⟨t, rfl, h1, h2, h4⟩
  go_wp2
  go_ret
  exact ⟨t, rfl, h1, by simp [ByteArray.size_mk'] at h2; omega, (show Below w.heap.size w _ from (by repeat (first | exact Below.refl _ _ | assumption | refine below_drewN ?_ _ | refine Below.drew ?_ | refine Below.setCell ?_ (by first | omega | (simp; done) | (simp; omega)) _ | refine Below.alloc ?_ (by first | omega | (simp; done) | (simp; omega)) _))).trans (h4.mono (by simp; omega))⟩
set_option maxRecDepth 100000 in
theorem where_ (a : Alr) (A : Option Addr) (c B : Nat) (w : World) (hg : AlGood a) (h : Sl w B 1 A a.cells.length c (ints a.cells)) (hB : B ≤ w.heap.size) (ht : Tab w) (h3 : 3 ≤ w.heap.size) :
    Calls Tryd.prog 94 #[a.val A c] w (LineRet (whereL a) w) := by
  have hmany := hg.many
  have HG := Lib.hid hg
  have HT := Lib.hid ht
  have HS := Lib.hid h
  clear hg ht h
  by_cases hw : a.wd = true
  · have HW := Lib.hid hw
    go_enter Tryd.func94, Tryd.ntmps94
    go_wp2_with fail
    go_ret
    exact ⟨_, rfl, by show _ = _; unfold whereL; rw [if_pos HW.out], by simp [ByteArray.size_mk'], (by repeat (first | exact Below.refl _ _ | assumption | refine below_drewN ?_ _ | refine Below.drew ?_ | refine Below.setCell ?_ (by first | omega | (simp; done) | (simp; omega)) _ | refine Below.alloc ?_ (by first | omega | (simp; done) | (simp; omega)) _))⟩
  · have hw' : a.wd = false := by simpa using hw
    have HW := Lib.hid hw
    clear hw
    go_enter Tryd.func94, Tryd.ntmps94
    go_wp2_with fail
    refine (row_ _ a.cells _ c B _ (by simp [ByteArray.size_mk']) (by omega) HG.out.cells (HS.out.alloc hB _) (by simp; omega) (HT.out.below (B := w.heap.size) (by omega) (by repeat (first | exact Below.refl _ _ | assumption | refine below_drewN ?_ _ | refine Below.drew ?_ | refine Below.setCell ?_ (by first | omega | (simp; done) | (simp; omega)) _ | refine Below.alloc ?_ (by first | omega | (simp; done) | (simp; omega)) _))) (by simp; omega)).mono ?_
    rintro e w1 ⟨t, rfl, h1, h2, h4⟩
    go_wp2
    go_ret
    exact ⟨t, rfl, by show _ = _; unfold whereL; rw [if_neg HW.out, h1.out], by simp [ByteArray.size_mk'] at h2; omega, (show Below w.heap.size w _ from (by repeat (first | exact Below.refl _ _ | assumption | refine below_drewN ?_ _ | refine Below.drew ?_ | refine Below.setCell ?_ (by first | omega | (simp; done) | (simp; omega)) _ | refine Below.alloc ?_ (by first | omega | (simp; done) | (simp; omega)) _))).trans (h4.mono (by simp))⟩
theorem end_ (a : Alr) (A : Option Addr) (c : Nat) (w : World) :
    Calls Tryd.prog 96 #[a.val A c] w (LineRet endL w) := by
  go_enter Tryd.func96, Tryd.ntmps96
  go_wp2_with fail
  go_ret
  exact ⟨_, rfl, rfl, by simp [ByteArray.size_mk'], (by repeat (first | exact Below.refl _ _ | assumption | refine below_drewN ?_ _ | refine Below.drew ?_ | refine Below.setCell ?_ (by first | omega | (simp; done) | (simp; omega)) _ | refine Below.alloc ?_ (by first | omega | (simp; done) | (simp; omega)) _))⟩
end Go.Proofs.YtohfofecbdfkgaaDoor
