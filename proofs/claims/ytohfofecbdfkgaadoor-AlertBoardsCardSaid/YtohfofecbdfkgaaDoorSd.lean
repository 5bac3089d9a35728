/-
  The walks of 'signed', of the program and of the specification, and of Signed.
-/
import Derived.Test.YtohfofecbdfkgaaDoorRs
import Derived.Test.YtohfofecbdfkgaaDoorBw
namespace Go.Proofs.YtohfofecbdfkgaaDoor
open Go.RowKit Al

/-- Is a number a signature of a digest? -/
def sigB (m x d num : Int) : Bool := inB num 0 (m - 1) && (pw num x m == d % m)
theorem sigB_no {m x d num : Int} (h : inB num 0 (m - 1) = false) : sigB m x d num = false := by unfold sigB; rw [h]; rfl
theorem sigB_yes {m x d num : Int} (h : inB num 0 (m - 1) = true) : sigB m x d num = (pw num x m == d % m) := by unfold sigB; rw [h]; rfl

set_option maxRecDepth 100000 in
set_option maxHeartbeats 1000000 in
theorem signed_ (m x d num : Int) (w : World) (h1 : plaus m x = true) (hd : 0 ≤ d ∧ d ≤ 2147483646) :
    Calls Tryd.prog 67 #[.agg #[.int .i64 m, .int .i64 x], .int .i64 d, .int .i64 num] w fun e w' => e = .returned (.bool (sigB m x d num)) ∧ Below w.heap.size w w' := by
  have b1 := plaus_true.1 h1
  have H1 := Lib.hid h1
  obtain ⟨d1, d2⟩ := hd
  clear h1
  by_cases h2 : inB num 0 (m - 1) = true
  · have H2 := Lib.hid h2
    have b2 := inB_true.1 h2
    clear h2
    go_enter Tryd.func67, Tryd.ntmps67
    go_wp2_with fail
    refine wp_region_bw2 (by kernel_rfl) (by kernel_rfl) (fun hbwc => ?_)
    repeat (go_big_quiet_step ((first | (go_at_call 59; exact bwSame (within_is _ _ _ _ H2.out _)) | (go_at_call 64; exact bwCall (power_ _ _ _ (by omega) (by omega) (by omega) (by omega) (by omega) _)))))
    refine wpQuiet_nil ?_
    clear hbwc
    intro w3 hb
    have Hw3 := Lib.hid ((show Below w.heap.size w _ from (by repeat (first | exact Below.refl _ _ | assumption | refine below_drewN ?_ _ | refine Below.drew ?_ | refine Below.setCell ?_ (by first | omega | (simp; done) | (simp; omega)) _ | refine Below.alloc ?_ (by first | omega | (simp; done) | (simp; omega)) _))).trans (hb.mono (by first | omega | (simp; done) | (simp; omega))))
    clear hb
    go_wp2_with fail
    go_ret
    exact ⟨ret_bool (sigB_yes H2.out).symm, Hw3.out⟩
  · have h2' : inB num 0 (m - 1) = false := by simpa using h2
    have H2 := Lib.hid h2'
    clear h2 h2'
    go_enter Tryd.func67, Tryd.ntmps67
    go_wp2_with fail
    go_quiet ((go_at_call 59; first | exact quietAdd (within_is _ _ _ _ H2.out _) | exact quiet0 (within_is _ _ _ _ H2.out _)))
    all_goals
      go_wp2_with fail
      go_ret
      exact ⟨ret_bool (sigB_no H2.out).symm, (by repeat (first | exact Below.refl _ _ | assumption | refine below_drewN ?_ _ | refine Below.drew ?_ | refine Below.setCell ?_ (by first | omega | (simp; done) | (simp; omega)) _ | refine Below.alloc ?_ (by first | omega | (simp; done) | (simp; omega)) _))⟩
end Go.Proofs.YtohfofecbdfkgaaDoor
