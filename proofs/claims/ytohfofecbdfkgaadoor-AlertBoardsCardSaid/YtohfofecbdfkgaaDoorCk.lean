/-
  The walk of the specification's function that asks whether an alert is valid.
-/
import Derived.Test.YtohfofecbdfkgaaDoorVa
import Derived.Deep.DeepCutAuto
namespace Go.Proofs.YtohfofecbdfkgaaDoor
open Go.RowKit Al

theorem Ins_ (n lo hi : Int) (w : World) :
    Calls Tryd.prog 44 #[.int .i64 n, .int .i64 lo, .int .i64 hi] w fun e w' => e = .returned (.bool (inB n lo hi)) ∧ w' = w :=
  (In_ n lo hi w).mono fun _ _ ⟨h, e⟩ => ⟨h, e.symm⟩

def CkRel (a : Alr) (s i : Value) : Prop := ∃ (k : Nat) (b : Bool), k ≤ a.cells.length ∧ s = .bool b ∧ i = .int .i64 k ∧ Hid ((b && rising (prevOf a.cells k) (manyCells a.grid) (a.cells.drop k)) = okA a) ∧
  Hid (b = true → pre2 a = true ∧ (0 < k → 0 ≤ prevOf a.cells k))

set_option maxRecDepth 100000 in
set_option maxHeartbeats 1000000 in
theorem rcheck_ (a : Alr) (A : Option Addr) (c B : Nat) (w : World) (hs : a.ev.size ≤ maxLen) (h : Sl w B 1 A a.cells.length c (ints a.cells)) (hB : B ≤ w.heap.size) :
    Calls Tryd.prog 65 #[a.val A c] w fun e w' => e = .returned (.int .i64 (errA (okA a) 101)) ∧ Below w.heap.size w w' := by
  have HE := Lib.hid hs
  have hlen : a.cells.length ≤ maxLen := Nat.le_trans h.cap h.max
  unfold maxLen at hlen
  clear hs
  go_enter Tryd.func65, Tryd.ntmps65
  go_upto_region 1 with fail
  go_cut [3] (fun s wx => s = .bool (pre1 a) ∧ wx = w.alloc (.cells (a.val A c).cells 29))
  case first =>
    go_wp2_with (first
      | (go_at_call 84; refine (rIsName_ _ _ HE.out).mono ?_; rintro e w' ⟨rfl, rfl⟩)
      | (go_at_call 44; refine (In_ _ _ _ _).mono ?_; rintro e w' ⟨rfl, rfl⟩))
    all_goals
      go_meet
      case rel => exact ⟨by first | (simp [pre1, *]; done) | (simp [pre1, *]; intros; omega) | (unfold pre1; simp_all; done), rfl⟩
  case rest =>
    obtain ⟨rfl, rfl⟩ := hcut
    go_upto_region 2 with fail
    go_cut [3] (fun s wx => s = .bool (pre2 a) ∧ wx = w.alloc (.cells (a.val A c).cells 29))
    case first =>
      go_wp2_with (go_at_call 44; refine (In_ _ _ _ _).mono ?_; rintro e w' ⟨rfl, rfl⟩)
      all_goals
        go_meet
        case rel => exact ⟨by first | (simp [pre2, *]; done) | (simp [pre2, *]; intros; omega) | (unfold pre2; simp_all; done), rfl⟩
    case rest =>
      obtain ⟨rfl, rfl⟩ := hcut
      go_wp2
      go_loopw [3, 4] (fun s i wr => CkRel a s i ∧ ∃ n, wr = (w.alloc (.cells (a.val A c).cells 29)).drewN n) (fun _ i _ => a.cells.length - (intOf i).toNat)
      case atStart => exact ⟨⟨0, pre2 a, Nat.zero_le _, rfl, rfl, (okA_pre a).symm, fun hp => ⟨hp, fun h0 => absurd h0 (by omega)⟩⟩, 0, rfl⟩
      case round =>
        obtain ⟨⟨k, b, hk, rfl, rfl, hp, hq⟩, n, rfl⟩ := hrel
        by_cases hlt : k < a.cells.length
        · cases b with
          | true =>
            have hgr := pre2_grid (hq.out rfl).1
            have bg := inB_true.1 hgr
            have e1 := Int.mul_le_mul_of_nonneg_right (show 6 * a.grid ≤ 48 by omega) (show 0 ≤ a.grid by omega)
            have e2 := Int.mul_nonneg (show 0 ≤ 6 * a.grid by omega) (show 0 ≤ a.grid by omega)
            have HO := Lib.hid (okAt_rising (many := manyCells a.grid) hlt (hq.out rfl).2)
            have HN := Lib.hid (okAt_nn (many := manyCells a.grid) hlt)
            have HG := Lib.hid (hq.out rfl).1
            have HP : Hid (rising (prevOf a.cells k) (manyCells a.grid) (a.cells.drop k) = okA a) := by
              show _ = _
              rw [← hp.out, Bool.true_and]
            obtain ⟨bk, off, rfl, hb, hc⟩ := h.int_at hlt hlt
            have hne : bk < w.heap.size := by omega
            have hlt' : (k : Int) < (a.cells.length : Int) := by omega
            have hk0 : (0 : Int) ≤ (k : Int) := by omega
            clear hgr hp hq
            by_cases h1 : inB a.cells[k] 0 (6 * a.grid * a.grid - 1) = true
            · by_cases h2 : k = 0
              · have h2' : ((k : Int) == 0) = true := by rw [h2]; rfl
                have hok := Lib.hid (okAt_first (l := a.cells) (many := manyCells a.grid) h1 h2)
                have H1 := Lib.hid h1
                clear h1 h2
                go_wp2
                go_quiet ((go_at_call 44; first | exact quietAdd (In_is _ _ _ _ H1.out _) | exact quiet0 (In_is _ _ _ _ H1.out _)))
                go_wp2
                go_roundw
                case rel => exact ⟨⟨k + 1, true, by omega, rfl, by go_num, by show _ = _; rw [← HP.out, ← HO.out, hok.out], fun _ => ⟨HG.out, HN.out hok.out⟩⟩, _, rfl⟩
                case measure => simp [intOf]; omega
              · have h2' : ((k : Int) == 0) = false := by simpa using h2
                have hk1 : (0 : Int) ≤ (k : Int) - 1 := by omega
                have hk2 : (k : Int) - 1 < (a.cells.length : Int) := by omega
                have hkn : ((k : Int) - 1).toNat = k - 1 := by omega
                have hc' : w.cell? ⟨bk, off + (k - 1), none⟩ = some (.int .i64 a.cells[k - 1]) := by
                  obtain ⟨b1, o1, e1, _, hc1⟩ := h.int_at (show k - 1 < a.cells.length by omega) (show k - 1 < a.cells.length by omega)
                  cases e1
                  exact hc1
                have hpv := prevOf_pos h2 (show k - 1 < a.cells.length by omega)
                by_cases h3 : a.cells[k - 1] < a.cells[k]
                · have hok := Lib.hid (okAt_lt (l := a.cells) (many := manyCells a.grid) (k := k) h1 (by rw [hpv]; exact h3))
                  have H1 := Lib.hid h1
                  clear h1 h2 hpv
                  go_wp2
                  go_quiet ((go_at_call 44; first | exact quietAdd (In_is _ _ _ _ H1.out _) | exact quiet0 (In_is _ _ _ _ H1.out _)))
                  go_wp2
                  go_roundw
                  case rel => exact ⟨⟨k + 1, true, by omega, rfl, by go_num, by show _ = _; rw [← HP.out, ← HO.out, hok.out], fun _ => ⟨HG.out, HN.out hok.out⟩⟩, _, rfl⟩
                  case measure => simp [intOf]; omega
                · have h3d := decide_eq_false h3
                  have hok := Lib.hid (okAt_ge (l := a.cells) (many := manyCells a.grid) (c := a.cells[k]) h2 (by rw [hpv]; exact h3))
                  have H1 := Lib.hid h1
                  clear h1 h2 hpv
                  go_wp2
                  go_quiet ((go_at_call 44; first | exact quietAdd (In_is _ _ _ _ H1.out _) | exact quiet0 (In_is _ _ _ _ H1.out _)))
                  go_wp2
                  go_roundw
                  case rel => exact ⟨⟨k + 1, false, by omega, rfl, by go_num, by show _ = _; rw [← HP.out, ← HO.out, hok.out, Bool.false_and], fun hf => by cases hf⟩, _, rfl⟩
                  case measure => simp [intOf]; omega
            · have h1' : inB a.cells[k] 0 (6 * a.grid * a.grid - 1) = false := by simpa using h1
              have hok := Lib.hid (okAt_no (l := a.cells) (many := manyCells a.grid) (k := k) h1')
              have H1 := Lib.hid h1'
              clear h1 h1'
              go_wp2
              go_quiet ((go_at_call 44; first | exact quietAdd (In_is _ _ _ _ H1.out _) | exact quiet0 (In_is _ _ _ _ H1.out _)))
              go_wp2
              go_roundw
              case rel => exact ⟨⟨k + 1, false, by omega, rfl, by go_num, by show _ = _; rw [← HP.out, ← HO.out, hok.out, Bool.false_and], fun hf => by cases hf⟩, _, rfl⟩
              case measure => simp [intOf]; omega
          | false =>
            have HR : Hid (okA a = false) := by
              show _ = _
              rw [← hp.out]; rfl
            clear hp hq
            go_wp2
            go_ret
            exact ⟨ret_int (by rw [HR.out]; rfl), (by repeat (first | exact Below.refl _ _ | assumption | refine below_drewN ?_ _ | refine Below.drew ?_ | refine Below.setCell ?_ (by first | omega | (simp; done) | (simp; omega)) _ | refine Below.alloc ?_ (by first | omega | (simp; done) | (simp; omega)) _))⟩
        · obtain rfl : k = a.cells.length := by omega
          have HR : Hid (okA a = b) := by
            show _ = _
            rw [← hp.out, rising_end, Bool.and_true]
          clear hp hq
          cases b
          all_goals
            go_wp2
            go_ret
            exact ⟨ret_int (by rw [HR.out]; rfl), (by repeat (first | exact Below.refl _ _ | assumption | refine below_drewN ?_ _ | refine Below.drew ?_ | refine Below.setCell ?_ (by first | omega | (simp; done) | (simp; omega)) _ | refine Below.alloc ?_ (by first | omega | (simp; done) | (simp; omega)) _))⟩
end Go.Proofs.YtohfofecbdfkgaaDoor
