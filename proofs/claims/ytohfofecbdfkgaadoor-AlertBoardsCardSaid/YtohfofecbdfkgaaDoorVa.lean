/-
  The walks of the functions that ask whether an alert is valid.
-/
import Derived.Test.YtohfofecbdfkgaaDoorNm
import Derived.Test.YtohfofecbdfkgaaDoorMem
import Derived.Deep.DeepCutAuto
namespace Go.Proofs.YtohfofecbdfkgaaDoor
open Go.RowKit Al

/-- An alert as a value: its cells are the slice '.slice A n c'. -/
@[reducible] def Al.Alr.val (a : Alr) (A : Option Addr) (c : Nat) : Value :=
  .agg #[.string a.ev, .int .i64 a.ver, .int .i64 a.tm, .int .i64 a.n, .int .i64 a.of, .int .i64 a.grid, .slice A a.cells.length c, .bool a.wd, .int .i64 a.before]

theorem skyGrid_ (n : Int) (w : World) :
    Calls Tryd.prog 100 #[.int .i64 n] w fun e w' => e = .returned (.bool (inB n 1 8)) ∧ w = w' := by
  go_enter Tryd.func100, Tryd.ntmps100
  go_wp2_with (go_at_call 103; refine (swithin_ _ _ _ _).mono ?_; rintro e w' ⟨rfl, rfl⟩)
  go_ret
  exact ⟨rfl, rfl⟩
theorem skyCells_yes (n : Int) (h : inB n 1 8 = true) (w : World) :
    Calls Tryd.prog 87 #[.int .i64 n] w fun e w' => e = .returned (.tuple #[.int .i64 (manyCells n), .int .i64 0]) ∧ w = w' := by
  have hb := inB_true.1 h
  have H := Lib.hid h
  have e1 := Int.mul_le_mul_of_nonneg_right (show 6 * n ≤ 48 by omega) (show 0 ≤ n by omega)
  have e2 := Int.mul_nonneg (show 0 ≤ 6 * n by omega) (show 0 ≤ n by omega)
  clear h
  go_enter Tryd.func87, Tryd.ntmps87
  go_wp2_with (go_at_call 100; refine (skyGrid_ _ _).mono ?_; rintro e w' ⟨rfl, rfl⟩; rw [H.out])
  go_ret2
  exact ⟨rfl, rfl⟩
theorem skyCells_no (n : Int) (h : inB n 1 8 = false) (w : World) :
    Calls Tryd.prog 87 #[.int .i64 n] w fun e w' => e = .returned (.tuple #[.int .i64 0, .int .i64 91]) ∧ w = w' := by
  have H := Lib.hid h
  clear h
  go_enter Tryd.func87, Tryd.ntmps87
  go_wp2_with (go_at_call 100; refine (skyGrid_ _ _).mono ?_; rintro e w' ⟨rfl, rfl⟩; rw [H.out])
  go_ret2
  exact ⟨rfl, rfl⟩

def RiseRel (a : Alr) (l i : Value) : Prop := ∃ (k : Nat) (last : Int), k ≤ a.cells.length ∧ l = .int .i64 last ∧ i = .int .i64 k ∧ Hid (rising last (manyCells a.grid) (a.cells.drop k) = rising (-1) (manyCells a.grid) (a.cells.drop 0))
set_option maxHeartbeats 1000000 in
theorem valid_ (a : Alr) (A : Option Addr) (c B : Nat) (w : World) (hs : a.ev.size ≤ maxLen) (h : Sl w B 1 A a.cells.length c (ints a.cells)) (hB : B ≤ w.heap.size) :
    Calls Tryd.prog 76 #[a.val A c] w fun e w' => e = .returned (.bool (okA a)) ∧ Below w.heap.size w w' := by
  by_cases hg : inB a.grid 1 8 = true
  · have Hg := Lib.hid hg
    have HE := Lib.hid hs
    clear hg hs
    go_enter Tryd.func76, Tryd.ntmps76
    go_wp2_with (first
      | (go_at_call 87; refine (skyCells_yes _ Hg.out _).mono ?_; rintro e w' ⟨rfl, rfl⟩)
      | (go_at_call 88; refine (isName_ _ _ HE.out).mono ?_; rintro e w' ⟨rfl, rfl⟩)
      | (go_at_call 59; refine (within_ _ _ _ _).mono ?_; rintro e w' ⟨rfl, rfl⟩))
    all_goals try (go_ret; exact ⟨ret_bool (okA_not (fun hk => by obtain ⟨_, k1, k2, k3, k4, k5, k6, _⟩ := okA_parts hk; first | contradiction | omega | (simp_all; done))).symm, (by repeat (first | exact Below.refl _ _ | assumption | refine below_drewN ?_ _ | refine Below.drew ?_ | refine Below.setCell ?_ (by first | omega | (simp; done) | (simp; omega)) _ | refine Below.alloc ?_ (by first | omega | (simp; done) | (simp; omega)) _))⟩)
    have HO : Hid (okA a = (rising (-1) (manyCells a.grid) (a.cells.drop 0) && (if a.ver = 1 then decide (a.before = 0) else inB a.before 0 2147483646))) :=
      okA_of Hg.out (by assumption) (by assumption) (by assumption) (by assumption) (by assumption) (by simp_all)
    have hlen : a.cells.length ≤ maxLen := Nat.le_trans h.cap h.max
    unfold maxLen at hlen
    have hmany : Hid (manyCells a.grid = manyCells a.grid) := rfl
    go_loop [6, 61] (fun l i => RiseRel a l i) (fun _ i => a.cells.length - (intOf i).toNat)
    case atStart => exact ⟨0, -1, Nat.zero_le _, rfl, rfl, rfl⟩
    case round =>
      obtain ⟨k, last, hk, rfl, rfl, hp⟩ := hrel
      by_cases hlt : k < a.cells.length
      · obtain ⟨b, off, rfl, hb, hc⟩ := h.int_at hlt hlt
        have hne : b < w.heap.size := by omega
        by_cases h1 : last < a.cells[k]
        · by_cases h2 : a.cells[k] < manyCells a.grid
          · have HN : Hid (rising a.cells[k] (manyCells a.grid) (a.cells.drop (k + 1)) = rising (-1) (manyCells a.grid) (a.cells.drop 0)) := by
              show _ = _
              rw [← hp.out, rising_go hlt h1 h2]
            go_wp2
            go_round
            case rel => (first | exact ⟨k + 1, a.cells[k], by omega, rfl, by go_num, HN⟩ | ((repeat apply Exists.intro); refine ⟨⟨k + 1, a.cells[k], by omega, rfl, by go_num, HN⟩, ?_⟩; (repeat refine ⟨rfl, ?_⟩); exact rfl))
            case measure => simp [intOf]; omega
          · have HN : Hid (okA a = false) := by
              show _ = _
              rw [HO.out, ← hp.out, rising_ge hlt h2]; rfl
            go_wp2
            go_ret
            exact ⟨ret_bool HN.out.symm, (by repeat (first | exact Below.refl _ _ | assumption | refine below_drewN ?_ _ | refine Below.drew ?_ | refine Below.setCell ?_ (by first | omega | (simp; done) | (simp; omega)) _ | refine Below.alloc ?_ (by first | omega | (simp; done) | (simp; omega)) _))⟩
        · have HN : Hid (okA a = false) := by
            show _ = _
            rw [HO.out, ← hp.out, rising_lt hlt h1]; rfl
          go_wp2
          go_ret
          exact ⟨ret_bool HN.out.symm, (by repeat (first | exact Below.refl _ _ | assumption | refine below_drewN ?_ _ | refine Below.drew ?_ | refine Below.setCell ?_ (by first | omega | (simp; done) | (simp; omega)) _ | refine Below.alloc ?_ (by first | omega | (simp; done) | (simp; omega)) _))⟩
      · obtain rfl : k = a.cells.length := by omega
        have HR : Hid (okA a = (if a.ver = 1 then decide (a.before = 0) else inB a.before 0 2147483646)) := by
          show _ = _
          rw [HO.out, ← hp.out, rising_end]; rfl
        by_cases hv : a.ver = 1
        · have HV : Hid (okA a = (a.before == 0)) := by
            show _ = _
            rw [HR.out, if_pos hv]
            rfl
          have hv' : (a.ver == 1) = true := by simpa using hv
          clear hv
          go_wp2
          go_ret
          exact ⟨ret_bool HV.out.symm, (by repeat (first | exact Below.refl _ _ | assumption | refine below_drewN ?_ _ | refine Below.drew ?_ | refine Below.setCell ?_ (by first | omega | (simp; done) | (simp; omega)) _ | refine Below.alloc ?_ (by first | omega | (simp; done) | (simp; omega)) _))⟩
        · have HV : Hid (okA a = inB a.before 0 2147483646) := by
            show _ = _
            rw [HR.out, if_neg hv]
          have hv' : (a.ver == 1) = false := by simpa using hv
          clear hv
          go_wp2_with (go_at_call 59; refine (within_ _ _ _ _).mono ?_; rintro e w' ⟨rfl, rfl⟩)
          go_ret
          exact ⟨ret_bool HV.out.symm, (by repeat (first | exact Below.refl _ _ | assumption | refine below_drewN ?_ _ | refine Below.drew ?_ | refine Below.setCell ?_ (by first | omega | (simp; done) | (simp; omega)) _ | refine Below.alloc ?_ (by first | omega | (simp; done) | (simp; omega)) _))⟩
  · have hg' : inB a.grid 1 8 = false := by simpa using hg
    have Hg := Lib.hid hg'
    clear hg hg'
    go_enter Tryd.func76, Tryd.ntmps76
    go_wp2_with (go_at_call 87; refine (skyCells_no _ Hg.out _).mono ?_; rintro e w' ⟨rfl, rfl⟩)
    go_ret
    exact ⟨ret_bool (by simp [okA, Hg.out]), (by repeat (first | exact Below.refl _ _ | assumption | refine below_drewN ?_ _ | refine Below.drew ?_ | refine Below.setCell ?_ (by first | omega | (simp; done) | (simp; omega)) _ | refine Below.alloc ?_ (by first | omega | (simp; done) | (simp; omega)) _))⟩
end Go.Proofs.YtohfofecbdfkgaaDoor
