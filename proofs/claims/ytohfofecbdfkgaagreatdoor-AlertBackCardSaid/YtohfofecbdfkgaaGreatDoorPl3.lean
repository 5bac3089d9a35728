/-
  Parse of a text that is too long, on both sides.
-/
import Derived.Test.YtohfofecbdfkgaaGreatDoorPr
import Derived.Test.YtohfofecbdfkgaaGreatDoorBx
import Derived.Test.YtohfofecbdfkgaaGreatDoorPb
import Derived.WalkMore
namespace Go.Proofs.YtohfofecbdfkgaaGreatDoor
open Go.RowKit Al
theorem parse_long (f : List UInt8 → Alr) {s : ByteArray} (hs : 65536 < s.size) : parseR f s.data.toList = (Al.zero, 3) := by
  unfold parseR
  rw [if_pos]
  rw [Array.length_toList]
  exact hs
set_option maxRecDepth 100000 in
set_option maxHeartbeats 2000000 in
theorem Parse_long (s : ByteArray) (w : World) (hs : 65536 < s.size) (hm : s.size ≤ maxLen) : Calls Tryz.prog 38 #[.string s] w (OwnT w.heap.size (parseR parseA s.data.toList).1 (parseR parseA s.data.toList).2 w) := by
  rw [parse_long _ hs]
  show Calls _ _ _ _ (OwnT w.heap.size Al.zero 3 w)
  have hs1 : (65536 : Int) < (s.size : Int) := by omega
  unfold maxLen at hm
  go_enter Tryz.func38, Tryz.ntmps38
  go_wp2_with fail
  go_step3
  go_wp2_with fail
  rw [Exit.noGoto_ret]
  exact bodyPost_ret (v := .tuple #[.agg #[.string ⟨#[]⟩, .int .i64 0, .int .i64 0, .int .i64 0, .int .i64 0, .int .i64 0, .slice none 0 0, .bool false, .int .i64 0], .int .i64 3]) (by simp [results, Tryz.results38, go_sem]) rfl ⟨none, 0, rfl, zero_row _ _, (by (repeat (first | exact Below.refl _ _ | assumption | refine below_drewN ?_ _ | refine Below.drew ?_ | refine Below.setCell ?_ (by first | omega | (simp; done) | (simp; omega)) _ | refine Below.alloc ?_ (by first | omega | (simp; done) | (simp; omega)) _)))⟩
set_option maxRecDepth 100000 in
set_option maxHeartbeats 2000000 in
theorem rParse_long (s : ByteArray) (w : World) (hs : 65536 < s.size) (hm : s.size ≤ maxLen) : Calls Tryz.prog 39 #[.string s] w (OwnT w.heap.size (parseR parseB s.data.toList).1 (parseR parseB s.data.toList).2 w) := by
  rw [parse_long _ hs]
  show Calls _ _ _ _ (OwnT w.heap.size Al.zero 3 w)
  have hs1 : (65536 : Int) < (s.size : Int) := by omega
  unfold maxLen at hm
  go_enter Tryz.func39, Tryz.ntmps39
  go_wp2_with fail
  exact bodyPost_ret (v := .tuple #[.agg #[.string ⟨#[]⟩, .int .i64 0, .int .i64 0, .int .i64 0, .int .i64 0, .int .i64 0, .slice none 0 0, .bool false, .int .i64 0], .int .i64 3]) (by simp [results, Tryz.results39, go_sem]) rfl ⟨none, 0, rfl, zero_row _ _, (by (repeat (first | exact Below.refl _ _ | assumption | refine below_drewN ?_ _ | refine Below.drew ?_ | refine Below.setCell ?_ (by first | omega | (simp; done) | (simp; omega)) _ | refine Below.alloc ?_ (by first | omega | (simp; done) | (simp; omega)) _)))⟩
end Go.Proofs.YtohfofecbdfkgaaGreatDoor
