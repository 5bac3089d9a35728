/-
  The walk of the law AlertBack: what Parse reads prints as it was; what Print writes parses to the same alert; alerts of one text are the same, and have one digest.
-/
import Derived.Test.YtohfofecbdfkgaaGreatDoorTt
import Derived.Test.YtohfofecbdfkgaaGreatDoorU15
import Derived.Test.YtohfofecbdfkgaaGreatDoorU22
namespace Go.Proofs.YtohfofecbdfkgaaGreatDoor
open Go.RowKit Al

theorem textL_short {a : Alr} (h : AlGood a) : (textL a).length ≤ 65536 := by
  rw [textL_pre]
  have l1 := itoa_len h.ver.1 h.ver.2
  have l2 := itoa_len h.tm.1 h.tm.2
  have l3 := itoa_len h.n.1 h.n.2
  have l4 := itoa_len h.of.1 h.of.2
  have l5 := itoa_len h.grid.1 h.grid.2
  have l6 := itoa_len h.before.1 h.before.2
  have l7 := h.many
  have l8 : a.ev.data.toList.length ≤ 16 := by have := h.ev; rw [Array.length_toList]; exact this
  have l9 : (whereL a).length ≤ 9 + 11 * a.cells.length := by
    unfold whereL
    split
    · simp
    · have := rowL_len (w := [99, 101, 108, 108, 115]) h.cells
      simp at this
      omega
  unfold preL
  simp only [List.length_append, List.length_cons, List.length_nil]
  omega
/-- The text of an alert, as a string. -/
def txS (a : Alr) : ByteArray := ⟨(textL a).toArray⟩
theorem txS_list (a : Alr) : (txS a).data.toList = textL a := rfl
theorem printR_t {a : Alr} (h : okA a = true) : printR a = (txS a, 0) := by unfold printR; rw [if_pos h]; rfl
theorem printR_f {a : Alr} (h : okA a = false) : printR a = (⟨#[]⟩, 101) := by unfold printR; rw [h]; rfl
theorem txS_max {a : Alr} (h : okA a = true) : (txS a).size ≤ maxLen := by
  have h1 := textL_short (okA_good h)
  have h2 : (txS a).size = (textL a).length := by rw [← txS_list, Array.length_toList]; rfl
  unfold maxLen
  omega
/-- What was printed parses to the alert. -/
theorem parse_back {a : Alr} (h : okA a = true) : parseR parseB (txS a).data.toList = (a, 0) := by
  have h1 := textL_short (okA_good h)
  rw [txS_list]
  unfold parseR
  rw [if_neg (by omega), parseB_text h, if_pos ⟨h, rfl⟩]
/-- What parses prints as it was. -/
theorem parse_print {s : ByteArray} {x : Alr} (h : parseR parseB s.data.toList = (x, 0)) : okA x = true ∧ printR x = (s, 0) := by
  unfold parseR at h
  split at h
  · cases h
  · split at h
    · rename_i h2
      cases h
      refine ⟨h2.1, ?_⟩
      rw [printR_t h2.1]
      congr 1
      exact ByteArray.ext (Array.toList_inj.1 h2.2)
    · cases h
theorem text_ne {a b : Alr} (h : ¬ textL a = textL b) : ((txS a).toList == (txS b).toList) = false := by
  rw [ByteArray.toList_eq, ByteArray.toList_eq, txS_list, txS_list]
  simpa using h
theorem same_ne {a b : Alr} (h : ¬ textL a = textL b) : sameB a b = false := by
  cases e : sameB a b with
  | false => rfl
  | true => exact absurd (congrArg textL (sameB_iff.1 e)) h
set_option maxRecDepth 100000 in
set_option maxHeartbeats 16000000 in
theorem lback_0n (a b x : Alr) (A : Option Addr) (c : Nat) (D : Option Addr) (d : Nat) (s : ByteArray) (w : World) (ha : AIn w a A c) (hb : AIn w b D d) (hs : s.size ≤ maxLen) (hr : RdyP w) (k : Int) (hk : (k == 0) = false) (hx : parseR parseB s.data.toList = (x, k)) (h1 : okA a = false) (t : ByteArray) (kb : Int) (h2 : printR b = (t, kb)) :
    Calls Tryz.prog 10 #[a.val A c, b.val D d, .string s] w fun e w' => e = .returned (.bool true) ∧ Below w.heap.size w w' := by
  have HA := Lib.hid ha
  have HB := Lib.hid hb
  have HR := Lib.hid hr
  have HX := Lib.hid hx
  have HS := Lib.hid hs
  have H1 := Lib.hid (printR_f h1)
  have H2 := Lib.hid h2
  clear ha hb hr hx hs h1 h2
  go_enter Tryz.func10, Tryz.ntmps10
  go_wp2_with fail
  refine (Parse_v s _ x k HX.out HS.out (HR.out.below (by repeat (first | exact Below.refl _ _ | assumption | refine below_drewN ?_ _ | refine Below.drew ?_ | refine Below.setCell ?_ (by first | omega | (simp; done) | (simp; omega)) _ | refine Below.alloc ?_ (by first | omega | (simp; done) | (simp; omega)) _)))).mono ?_
  rintro e w1 ⟨A1, c1, rfl, ho1, hb⟩
  clear ho1
  have Hw1 : Hid (Below (w.heap.size) (w) w1) := (show Below (w.heap.size) (w) _ from (by repeat (first | exact Below.refl _ _ | assumption | refine below_drewN ?_ _ | refine Below.drew ?_ | refine Below.setCell ?_ (by first | omega | (simp; done) | (simp; omega)) _ | refine Below.alloc ?_ (by first | omega | (simp; done) | (simp; omega)) _))).trans (hb.mono (by first | omega | (simp; done) | (simp; omega)))
  have Pw1 : Hid (Below (w.heap.size + 1 + 1) ((w.alloc (.cells #[.string a.ev, .int .i64 a.ver, .int .i64 a.tm, .int .i64 a.n, .int .i64 a.of, .int .i64 a.grid, .slice A a.cells.length c, .bool a.wd, .int .i64 a.before] 48)).alloc (.cells #[.string b.ev, .int .i64 b.ver, .int .i64 b.tm, .int .i64 b.n, .int .i64 b.of, .int .i64 b.grid, .slice D b.cells.length d, .bool b.wd, .int .i64 b.before] 48)) w1) := (show Below (w.heap.size + 1 + 1) ((w.alloc (.cells #[.string a.ev, .int .i64 a.ver, .int .i64 a.tm, .int .i64 a.n, .int .i64 a.of, .int .i64 a.grid, .slice A a.cells.length c, .bool a.wd, .int .i64 a.before] 48)).alloc (.cells #[.string b.ev, .int .i64 b.ver, .int .i64 b.tm, .int .i64 b.n, .int .i64 b.of, .int .i64 b.grid, .slice D b.cells.length d, .bool b.wd, .int .i64 b.before] 48)) _ from (by repeat (first | exact Below.refl _ _ | assumption | refine below_drewN ?_ _ | refine Below.drew ?_ | refine Below.setCell ?_ (by first | omega | (simp; done) | (simp; omega)) _ | refine Below.alloc ?_ (by first | omega | (simp; done) | (simp; omega)) _))).trans (hb.mono (by first | omega | (simp; done) | (simp; omega)))
  obtain ⟨hcPw1, hfPw1⟩ := bcell Pw1.out
  have hzw1 := hb.size
  try simp at hzw1
  clear hb
  have l0 : w.heap.size < w1.heap.size := by omega
  have l1 : w.heap.size + 1 < w1.heap.size := by omega
  go_wp2_with fail
  refine (Print_v a A c _ ⟨#[]⟩ 101 H1.out (HA.out.below (by repeat (first | exact Below.refl _ _ | exact (Hw1).out | refine below_drewN ?_ _ | refine Below.drew ?_ | refine Below.setCell ?_ (by first | omega | (simp; done) | (simp; omega)) _ | refine Below.alloc ?_ (by first | omega | (simp; done) | (simp; omega)) _))) (HR.out.below (by repeat (first | exact Below.refl _ _ | exact (Hw1).out | refine below_drewN ?_ _ | refine Below.drew ?_ | refine Below.setCell ?_ (by first | omega | (simp; done) | (simp; omega)) _ | refine Below.alloc ?_ (by first | omega | (simp; done) | (simp; omega)) _))).rdy).mono ?_
  rintro e w2 ⟨rfl, hb⟩
  have Hw2 : Hid (Below (w.heap.size) (w) w2) := (show Below (w.heap.size) (w) _ from (by repeat (first | exact Below.refl _ _ | exact (Hw1).out | refine below_drewN ?_ _ | refine Below.drew ?_ | refine Below.setCell ?_ (by first | omega | (simp; done) | (simp; omega)) _ | refine Below.alloc ?_ (by first | omega | (simp; done) | (simp; omega)) _))).trans (hb.mono (by first | omega | (simp; done) | (simp; omega)))
  have Pw2 : Hid (Below (w.heap.size + 1 + 1) ((w.alloc (.cells #[.string a.ev, .int .i64 a.ver, .int .i64 a.tm, .int .i64 a.n, .int .i64 a.of, .int .i64 a.grid, .slice A a.cells.length c, .bool a.wd, .int .i64 a.before] 48)).alloc (.cells #[.string b.ev, .int .i64 b.ver, .int .i64 b.tm, .int .i64 b.n, .int .i64 b.of, .int .i64 b.grid, .slice D b.cells.length d, .bool b.wd, .int .i64 b.before] 48)) w2) := (show Below (w.heap.size + 1 + 1) ((w.alloc (.cells #[.string a.ev, .int .i64 a.ver, .int .i64 a.tm, .int .i64 a.n, .int .i64 a.of, .int .i64 a.grid, .slice A a.cells.length c, .bool a.wd, .int .i64 a.before] 48)).alloc (.cells #[.string b.ev, .int .i64 b.ver, .int .i64 b.tm, .int .i64 b.n, .int .i64 b.of, .int .i64 b.grid, .slice D b.cells.length d, .bool b.wd, .int .i64 b.before] 48)) _ from (by repeat (first | exact Below.refl _ _ | exact (Pw1).out | refine below_drewN ?_ _ | refine Below.drew ?_ | refine Below.setCell ?_ (by first | omega | (simp; done) | (simp; omega)) _ | refine Below.alloc ?_ (by first | omega | (simp; done) | (simp; omega)) _))).trans (hb.mono (by first | omega | (simp; done) | (simp; omega)))
  obtain ⟨hcPw2, hfPw2⟩ := bcell Pw2.out
  clear hcPw1 hfPw1
  have hzw2 := hb.size
  try simp at hzw2
  clear hb
  clear l0 l1
  have l0 : w.heap.size < w2.heap.size := by omega
  have l1 : w.heap.size + 1 < w2.heap.size := by omega
  go_wp2_with fail
  refine (Print_v b D d _ t kb H2.out (HB.out.below (by repeat (first | exact Below.refl _ _ | exact (Hw2).out | refine below_drewN ?_ _ | refine Below.drew ?_ | refine Below.setCell ?_ (by first | omega | (simp; done) | (simp; omega)) _ | refine Below.alloc ?_ (by first | omega | (simp; done) | (simp; omega)) _))) (HR.out.below (by repeat (first | exact Below.refl _ _ | exact (Hw2).out | refine below_drewN ?_ _ | refine Below.drew ?_ | refine Below.setCell ?_ (by first | omega | (simp; done) | (simp; omega)) _ | refine Below.alloc ?_ (by first | omega | (simp; done) | (simp; omega)) _))).rdy).mono ?_
  rintro e w3 ⟨rfl, hb⟩
  have Hw3 : Hid (Below (w.heap.size) (w) w3) := (show Below (w.heap.size) (w) _ from (by repeat (first | exact Below.refl _ _ | exact (Hw2).out | refine below_drewN ?_ _ | refine Below.drew ?_ | refine Below.setCell ?_ (by first | omega | (simp; done) | (simp; omega)) _ | refine Below.alloc ?_ (by first | omega | (simp; done) | (simp; omega)) _))).trans (hb.mono (by first | omega | (simp; done) | (simp; omega)))
  have Pw3 : Hid (Below (w.heap.size + 1 + 1) ((w.alloc (.cells #[.string a.ev, .int .i64 a.ver, .int .i64 a.tm, .int .i64 a.n, .int .i64 a.of, .int .i64 a.grid, .slice A a.cells.length c, .bool a.wd, .int .i64 a.before] 48)).alloc (.cells #[.string b.ev, .int .i64 b.ver, .int .i64 b.tm, .int .i64 b.n, .int .i64 b.of, .int .i64 b.grid, .slice D b.cells.length d, .bool b.wd, .int .i64 b.before] 48)) w3) := (show Below (w.heap.size + 1 + 1) ((w.alloc (.cells #[.string a.ev, .int .i64 a.ver, .int .i64 a.tm, .int .i64 a.n, .int .i64 a.of, .int .i64 a.grid, .slice A a.cells.length c, .bool a.wd, .int .i64 a.before] 48)).alloc (.cells #[.string b.ev, .int .i64 b.ver, .int .i64 b.tm, .int .i64 b.n, .int .i64 b.of, .int .i64 b.grid, .slice D b.cells.length d, .bool b.wd, .int .i64 b.before] 48)) _ from (by repeat (first | exact Below.refl _ _ | exact (Pw2).out | refine below_drewN ?_ _ | refine Below.drew ?_ | refine Below.setCell ?_ (by first | omega | (simp; done) | (simp; omega)) _ | refine Below.alloc ?_ (by first | omega | (simp; done) | (simp; omega)) _))).trans (hb.mono (by first | omega | (simp; done) | (simp; omega)))
  obtain ⟨hcPw3, hfPw3⟩ := bcell Pw3.out
  clear hcPw2 hfPw2
  have hzw3 := hb.size
  try simp at hzw3
  clear hb
  clear l0 l1
  have l0 : w.heap.size < w3.heap.size := by omega
  have l1 : w.heap.size + 1 < w3.heap.size := by omega
  go_wp2_with fail
  refine (works_ _ (HR.out.below (by repeat (first | exact Below.refl _ _ | exact (Hw3).out | refine below_drewN ?_ _ | refine Below.drew ?_ | refine Below.setCell ?_ (by first | omega | (simp; done) | (simp; omega)) _ | refine Below.alloc ?_ (by first | omega | (simp; done) | (simp; omega)) _))).rdy).mono ?_
  rintro e w4 ⟨rfl, hb⟩
  have Hw4 : Hid (Below (w.heap.size) (w) w4) := (show Below (w.heap.size) (w) _ from (by repeat (first | exact Below.refl _ _ | exact (Hw3).out | refine below_drewN ?_ _ | refine Below.drew ?_ | refine Below.setCell ?_ (by first | omega | (simp; done) | (simp; omega)) _ | refine Below.alloc ?_ (by first | omega | (simp; done) | (simp; omega)) _))).trans (hb.mono (by first | omega | (simp; done) | (simp; omega)))
  have Pw4 : Hid (Below (w.heap.size + 1 + 1) ((w.alloc (.cells #[.string a.ev, .int .i64 a.ver, .int .i64 a.tm, .int .i64 a.n, .int .i64 a.of, .int .i64 a.grid, .slice A a.cells.length c, .bool a.wd, .int .i64 a.before] 48)).alloc (.cells #[.string b.ev, .int .i64 b.ver, .int .i64 b.tm, .int .i64 b.n, .int .i64 b.of, .int .i64 b.grid, .slice D b.cells.length d, .bool b.wd, .int .i64 b.before] 48)) w4) := (show Below (w.heap.size + 1 + 1) ((w.alloc (.cells #[.string a.ev, .int .i64 a.ver, .int .i64 a.tm, .int .i64 a.n, .int .i64 a.of, .int .i64 a.grid, .slice A a.cells.length c, .bool a.wd, .int .i64 a.before] 48)).alloc (.cells #[.string b.ev, .int .i64 b.ver, .int .i64 b.tm, .int .i64 b.n, .int .i64 b.of, .int .i64 b.grid, .slice D b.cells.length d, .bool b.wd, .int .i64 b.before] 48)) _ from (by repeat (first | exact Below.refl _ _ | exact (Pw3).out | refine below_drewN ?_ _ | refine Below.drew ?_ | refine Below.setCell ?_ (by first | omega | (simp; done) | (simp; omega)) _ | refine Below.alloc ?_ (by first | omega | (simp; done) | (simp; omega)) _))).trans (hb.mono (by first | omega | (simp; done) | (simp; omega)))
  obtain ⟨hcPw4, hfPw4⟩ := bcell Pw4.out
  clear hcPw3 hfPw3
  have hzw4 := hb.size
  try simp at hzw4
  clear hb
  clear l0 l1
  have l0 : w.heap.size < w4.heap.size := by omega
  have l1 : w.heap.size + 1 < w4.heap.size := by omega
  go_wp2_with fail
  go_ret
  exact ⟨rfl, Hw4.out⟩
set_option maxRecDepth 100000 in
set_option maxHeartbeats 16000000 in
theorem lback_0t (a b x : Alr) (A : Option Addr) (c : Nat) (D : Option Addr) (d : Nat) (s : ByteArray) (w : World) (ha : AIn w a A c) (hb : AIn w b D d) (hs : s.size ≤ maxLen) (hr : RdyP w) (k : Int) (hk : (k == 0) = false) (hx : parseR parseB s.data.toList = (x, k)) (h1 : okA a = true) (h2 : okA b = false) :
    Calls Tryz.prog 10 #[a.val A c, b.val D d, .string s] w fun e w' => e = .returned (.bool true) ∧ Below w.heap.size w w' := by
  have HA := Lib.hid ha
  have HB := Lib.hid hb
  have HR := Lib.hid hr
  have HX := Lib.hid hx
  have HS := Lib.hid hs
  have H1 := Lib.hid (printR_t h1)
  have HP := Lib.hid (parse_back h1)
  have HM := Lib.hid (txS_max h1)
  have HEV := Lib.hid ha.ev
  have HK1 : Hid (errA (okA a) 101 = 0) := errA_t h1
  obtain ⟨ta, hta⟩ : ∃ t, t = txS a := ⟨_, rfl⟩
  rw [← hta] at H1 HP HM
  have q1 : (ta.toList == ta.toList) = true := by simp
  obtain ⟨d1, hd1⟩ : ∃ d, digE a = d := ⟨_, rfl⟩
  have HD1 := Lib.hid hd1
  have q2 : (d1 == d1) = true := by simp
  have H2 := Lib.hid (printR_f h2)
  have HK2 : Hid (errA (okA b) 101 = 101) := errA_f h2
  obtain ⟨d2, hd2⟩ : ∃ d, digE b = d := ⟨_, rfl⟩
  have HD2 := Lib.hid hd2
  clear hd2
  clear hd1 hta
  clear ha hb hr hx hs h1 h2
  go_enter Tryz.func10, Tryz.ntmps10
  go_wp2_with fail
  refine (Parse_v s _ x k HX.out HS.out (HR.out.below (by repeat (first | exact Below.refl _ _ | assumption | refine below_drewN ?_ _ | refine Below.drew ?_ | refine Below.setCell ?_ (by first | omega | (simp; done) | (simp; omega)) _ | refine Below.alloc ?_ (by first | omega | (simp; done) | (simp; omega)) _)))).mono ?_
  rintro e w1 ⟨A1, c1, rfl, ho1, hb⟩
  clear ho1
  have Hw1 : Hid (Below (w.heap.size) (w) w1) := (show Below (w.heap.size) (w) _ from (by repeat (first | exact Below.refl _ _ | assumption | refine below_drewN ?_ _ | refine Below.drew ?_ | refine Below.setCell ?_ (by first | omega | (simp; done) | (simp; omega)) _ | refine Below.alloc ?_ (by first | omega | (simp; done) | (simp; omega)) _))).trans (hb.mono (by first | omega | (simp; done) | (simp; omega)))
  have Pw1 : Hid (Below (w.heap.size + 1 + 1) ((w.alloc (.cells #[.string a.ev, .int .i64 a.ver, .int .i64 a.tm, .int .i64 a.n, .int .i64 a.of, .int .i64 a.grid, .slice A a.cells.length c, .bool a.wd, .int .i64 a.before] 48)).alloc (.cells #[.string b.ev, .int .i64 b.ver, .int .i64 b.tm, .int .i64 b.n, .int .i64 b.of, .int .i64 b.grid, .slice D b.cells.length d, .bool b.wd, .int .i64 b.before] 48)) w1) := (show Below (w.heap.size + 1 + 1) ((w.alloc (.cells #[.string a.ev, .int .i64 a.ver, .int .i64 a.tm, .int .i64 a.n, .int .i64 a.of, .int .i64 a.grid, .slice A a.cells.length c, .bool a.wd, .int .i64 a.before] 48)).alloc (.cells #[.string b.ev, .int .i64 b.ver, .int .i64 b.tm, .int .i64 b.n, .int .i64 b.of, .int .i64 b.grid, .slice D b.cells.length d, .bool b.wd, .int .i64 b.before] 48)) _ from (by repeat (first | exact Below.refl _ _ | assumption | refine below_drewN ?_ _ | refine Below.drew ?_ | refine Below.setCell ?_ (by first | omega | (simp; done) | (simp; omega)) _ | refine Below.alloc ?_ (by first | omega | (simp; done) | (simp; omega)) _))).trans (hb.mono (by first | omega | (simp; done) | (simp; omega)))
  obtain ⟨hcPw1, hfPw1⟩ := bcell Pw1.out
  have hzw1 := hb.size
  try simp at hzw1
  clear hb
  have l0 : w.heap.size < w1.heap.size := by omega
  have l1 : w.heap.size + 1 < w1.heap.size := by omega
  go_wp2_with fail
  refine (Print_v a A c _ ta 0 H1.out (HA.out.below (by repeat (first | exact Below.refl _ _ | exact (Hw1).out | refine below_drewN ?_ _ | refine Below.drew ?_ | refine Below.setCell ?_ (by first | omega | (simp; done) | (simp; omega)) _ | refine Below.alloc ?_ (by first | omega | (simp; done) | (simp; omega)) _))) (HR.out.below (by repeat (first | exact Below.refl _ _ | exact (Hw1).out | refine below_drewN ?_ _ | refine Below.drew ?_ | refine Below.setCell ?_ (by first | omega | (simp; done) | (simp; omega)) _ | refine Below.alloc ?_ (by first | omega | (simp; done) | (simp; omega)) _))).rdy).mono ?_
  rintro e w2 ⟨rfl, hb⟩
  have Hw2 : Hid (Below (w.heap.size) (w) w2) := (show Below (w.heap.size) (w) _ from (by repeat (first | exact Below.refl _ _ | exact (Hw1).out | refine below_drewN ?_ _ | refine Below.drew ?_ | refine Below.setCell ?_ (by first | omega | (simp; done) | (simp; omega)) _ | refine Below.alloc ?_ (by first | omega | (simp; done) | (simp; omega)) _))).trans (hb.mono (by first | omega | (simp; done) | (simp; omega)))
  have Pw2 : Hid (Below (w.heap.size + 1 + 1) ((w.alloc (.cells #[.string a.ev, .int .i64 a.ver, .int .i64 a.tm, .int .i64 a.n, .int .i64 a.of, .int .i64 a.grid, .slice A a.cells.length c, .bool a.wd, .int .i64 a.before] 48)).alloc (.cells #[.string b.ev, .int .i64 b.ver, .int .i64 b.tm, .int .i64 b.n, .int .i64 b.of, .int .i64 b.grid, .slice D b.cells.length d, .bool b.wd, .int .i64 b.before] 48)) w2) := (show Below (w.heap.size + 1 + 1) ((w.alloc (.cells #[.string a.ev, .int .i64 a.ver, .int .i64 a.tm, .int .i64 a.n, .int .i64 a.of, .int .i64 a.grid, .slice A a.cells.length c, .bool a.wd, .int .i64 a.before] 48)).alloc (.cells #[.string b.ev, .int .i64 b.ver, .int .i64 b.tm, .int .i64 b.n, .int .i64 b.of, .int .i64 b.grid, .slice D b.cells.length d, .bool b.wd, .int .i64 b.before] 48)) _ from (by repeat (first | exact Below.refl _ _ | exact (Pw1).out | refine below_drewN ?_ _ | refine Below.drew ?_ | refine Below.setCell ?_ (by first | omega | (simp; done) | (simp; omega)) _ | refine Below.alloc ?_ (by first | omega | (simp; done) | (simp; omega)) _))).trans (hb.mono (by first | omega | (simp; done) | (simp; omega)))
  obtain ⟨hcPw2, hfPw2⟩ := bcell Pw2.out
  clear hcPw1 hfPw1
  have hzw2 := hb.size
  try simp at hzw2
  clear hb
  clear l0 l1
  have l0 : w.heap.size < w2.heap.size := by omega
  have l1 : w.heap.size + 1 < w2.heap.size := by omega
  go_wp2_with fail
  refine (Print_v b D d _ ⟨#[]⟩ 101 H2.out (HB.out.below (by repeat (first | exact Below.refl _ _ | exact (Hw2).out | refine below_drewN ?_ _ | refine Below.drew ?_ | refine Below.setCell ?_ (by first | omega | (simp; done) | (simp; omega)) _ | refine Below.alloc ?_ (by first | omega | (simp; done) | (simp; omega)) _))) (HR.out.below (by repeat (first | exact Below.refl _ _ | exact (Hw2).out | refine below_drewN ?_ _ | refine Below.drew ?_ | refine Below.setCell ?_ (by first | omega | (simp; done) | (simp; omega)) _ | refine Below.alloc ?_ (by first | omega | (simp; done) | (simp; omega)) _))).rdy).mono ?_
  rintro e w3 ⟨rfl, hb⟩
  have Hw3 : Hid (Below (w.heap.size) (w) w3) := (show Below (w.heap.size) (w) _ from (by repeat (first | exact Below.refl _ _ | exact (Hw2).out | refine below_drewN ?_ _ | refine Below.drew ?_ | refine Below.setCell ?_ (by first | omega | (simp; done) | (simp; omega)) _ | refine Below.alloc ?_ (by first | omega | (simp; done) | (simp; omega)) _))).trans (hb.mono (by first | omega | (simp; done) | (simp; omega)))
  have Pw3 : Hid (Below (w.heap.size + 1 + 1) ((w.alloc (.cells #[.string a.ev, .int .i64 a.ver, .int .i64 a.tm, .int .i64 a.n, .int .i64 a.of, .int .i64 a.grid, .slice A a.cells.length c, .bool a.wd, .int .i64 a.before] 48)).alloc (.cells #[.string b.ev, .int .i64 b.ver, .int .i64 b.tm, .int .i64 b.n, .int .i64 b.of, .int .i64 b.grid, .slice D b.cells.length d, .bool b.wd, .int .i64 b.before] 48)) w3) := (show Below (w.heap.size + 1 + 1) ((w.alloc (.cells #[.string a.ev, .int .i64 a.ver, .int .i64 a.tm, .int .i64 a.n, .int .i64 a.of, .int .i64 a.grid, .slice A a.cells.length c, .bool a.wd, .int .i64 a.before] 48)).alloc (.cells #[.string b.ev, .int .i64 b.ver, .int .i64 b.tm, .int .i64 b.n, .int .i64 b.of, .int .i64 b.grid, .slice D b.cells.length d, .bool b.wd, .int .i64 b.before] 48)) _ from (by repeat (first | exact Below.refl _ _ | exact (Pw2).out | refine below_drewN ?_ _ | refine Below.drew ?_ | refine Below.setCell ?_ (by first | omega | (simp; done) | (simp; omega)) _ | refine Below.alloc ?_ (by first | omega | (simp; done) | (simp; omega)) _))).trans (hb.mono (by first | omega | (simp; done) | (simp; omega)))
  obtain ⟨hcPw3, hfPw3⟩ := bcell Pw3.out
  clear hcPw2 hfPw2
  have hzw3 := hb.size
  try simp at hzw3
  clear hb
  clear l0 l1
  have l0 : w.heap.size < w3.heap.size := by omega
  have l1 : w.heap.size + 1 < w3.heap.size := by omega
  go_wp2_with fail
  refine (Parse_v ta _ a 0 HP.out HM.out (HR.out.below (by repeat (first | exact Below.refl _ _ | exact (Hw3).out | refine below_drewN ?_ _ | refine Below.drew ?_ | refine Below.setCell ?_ (by first | omega | (simp; done) | (simp; omega)) _ | refine Below.alloc ?_ (by first | omega | (simp; done) | (simp; omega)) _)))).mono ?_
  rintro e w4 ⟨A6, c6, rfl, ho6, hb⟩
  have Hw4 : Hid (Below (w.heap.size) (w) w4) := (show Below (w.heap.size) (w) _ from (by repeat (first | exact Below.refl _ _ | exact (Hw3).out | refine below_drewN ?_ _ | refine Below.drew ?_ | refine Below.setCell ?_ (by first | omega | (simp; done) | (simp; omega)) _ | refine Below.alloc ?_ (by first | omega | (simp; done) | (simp; omega)) _))).trans (hb.mono (by first | omega | (simp; done) | (simp; omega)))
  have Pw4 : Hid (Below (w.heap.size + 1 + 1) ((w.alloc (.cells #[.string a.ev, .int .i64 a.ver, .int .i64 a.tm, .int .i64 a.n, .int .i64 a.of, .int .i64 a.grid, .slice A a.cells.length c, .bool a.wd, .int .i64 a.before] 48)).alloc (.cells #[.string b.ev, .int .i64 b.ver, .int .i64 b.tm, .int .i64 b.n, .int .i64 b.of, .int .i64 b.grid, .slice D b.cells.length d, .bool b.wd, .int .i64 b.before] 48)) w4) := (show Below (w.heap.size + 1 + 1) ((w.alloc (.cells #[.string a.ev, .int .i64 a.ver, .int .i64 a.tm, .int .i64 a.n, .int .i64 a.of, .int .i64 a.grid, .slice A a.cells.length c, .bool a.wd, .int .i64 a.before] 48)).alloc (.cells #[.string b.ev, .int .i64 b.ver, .int .i64 b.tm, .int .i64 b.n, .int .i64 b.of, .int .i64 b.grid, .slice D b.cells.length d, .bool b.wd, .int .i64 b.before] 48)) _ from (by repeat (first | exact Below.refl _ _ | exact (Pw3).out | refine below_drewN ?_ _ | refine Below.drew ?_ | refine Below.setCell ?_ (by first | omega | (simp; done) | (simp; omega)) _ | refine Below.alloc ?_ (by first | omega | (simp; done) | (simp; omega)) _))).trans (hb.mono (by first | omega | (simp; done) | (simp; omega)))
  obtain ⟨hcPw4, hfPw4⟩ := bcell Pw4.out
  clear hcPw3 hfPw3
  have hzw4 := hb.size
  try simp at hzw4
  clear hb
  clear l0 l1
  have l0 : w.heap.size < w4.heap.size := by omega
  have l1 : w.heap.size + 1 < w4.heap.size := by omega
  have HX6 : Hid (AIn w4 a A6 c6) := own_in HEV.out ho6
  clear ho6
  go_wp2_with fail
  refine (Digest_v a A c _ d1 0 HD1.out HK1.out (HA.out.below (by repeat (first | exact Below.refl _ _ | exact (Hw4).out | refine below_drewN ?_ _ | refine Below.drew ?_ | refine Below.setCell ?_ (by first | omega | (simp; done) | (simp; omega)) _ | refine Below.alloc ?_ (by first | omega | (simp; done) | (simp; omega)) _))) (HR.out.below (by repeat (first | exact Below.refl _ _ | exact (Hw4).out | refine below_drewN ?_ _ | refine Below.drew ?_ | refine Below.setCell ?_ (by first | omega | (simp; done) | (simp; omega)) _ | refine Below.alloc ?_ (by first | omega | (simp; done) | (simp; omega)) _))).rdy).mono ?_
  rintro e w5 ⟨rfl, hb⟩
  have Hw5 : Hid (Below (w.heap.size) (w) w5) := (show Below (w.heap.size) (w) _ from (by repeat (first | exact Below.refl _ _ | exact (Hw4).out | refine below_drewN ?_ _ | refine Below.drew ?_ | refine Below.setCell ?_ (by first | omega | (simp; done) | (simp; omega)) _ | refine Below.alloc ?_ (by first | omega | (simp; done) | (simp; omega)) _))).trans (hb.mono (by first | omega | (simp; done) | (simp; omega)))
  have Pw5 : Hid (Below (w.heap.size + 1 + 1) ((w.alloc (.cells #[.string a.ev, .int .i64 a.ver, .int .i64 a.tm, .int .i64 a.n, .int .i64 a.of, .int .i64 a.grid, .slice A a.cells.length c, .bool a.wd, .int .i64 a.before] 48)).alloc (.cells #[.string b.ev, .int .i64 b.ver, .int .i64 b.tm, .int .i64 b.n, .int .i64 b.of, .int .i64 b.grid, .slice D b.cells.length d, .bool b.wd, .int .i64 b.before] 48)) w5) := (show Below (w.heap.size + 1 + 1) ((w.alloc (.cells #[.string a.ev, .int .i64 a.ver, .int .i64 a.tm, .int .i64 a.n, .int .i64 a.of, .int .i64 a.grid, .slice A a.cells.length c, .bool a.wd, .int .i64 a.before] 48)).alloc (.cells #[.string b.ev, .int .i64 b.ver, .int .i64 b.tm, .int .i64 b.n, .int .i64 b.of, .int .i64 b.grid, .slice D b.cells.length d, .bool b.wd, .int .i64 b.before] 48)) _ from (by repeat (first | exact Below.refl _ _ | exact (Pw4).out | refine below_drewN ?_ _ | refine Below.drew ?_ | refine Below.setCell ?_ (by first | omega | (simp; done) | (simp; omega)) _ | refine Below.alloc ?_ (by first | omega | (simp; done) | (simp; omega)) _))).trans (hb.mono (by first | omega | (simp; done) | (simp; omega)))
  obtain ⟨hcPw5, hfPw5⟩ := bcell Pw5.out
  clear hcPw4 hfPw4
  have Rw5 : Hid (Below (w4.heap.size) (w4) w5) := (show Below (w4.heap.size) (w4) _ from (by repeat (first | exact Below.refl _ _ | assumption | refine below_drewN ?_ _ | refine Below.drew ?_ | refine Below.setCell ?_ (by first | omega | (simp; done) | (simp; omega)) _ | refine Below.alloc ?_ (by first | omega | (simp; done) | (simp; omega)) _))).trans (hb.mono (by first | omega | (simp; done) | (simp; omega)))
  have Yw5 : Hid (Below (w4.heap.size + 1) (w4.alloc (.cells #[.string a.ev, .int .i64 a.ver, .int .i64 a.tm, .int .i64 a.n, .int .i64 a.of, .int .i64 a.grid, .slice A6 a.cells.length c6, .bool a.wd, .int .i64 a.before] 48)) w5) := (show Below (w4.heap.size + 1) (w4.alloc (.cells #[.string a.ev, .int .i64 a.ver, .int .i64 a.tm, .int .i64 a.n, .int .i64 a.of, .int .i64 a.grid, .slice A6 a.cells.length c6, .bool a.wd, .int .i64 a.before] 48)) _ from (by repeat (first | exact Below.refl _ _ | assumption | refine below_drewN ?_ _ | refine Below.drew ?_ | refine Below.setCell ?_ (by first | omega | (simp; done) | (simp; omega)) _ | refine Below.alloc ?_ (by first | omega | (simp; done) | (simp; omega)) _))).trans (hb.mono (by first | omega | (simp; done) | (simp; omega)))
  obtain ⟨hcYw5, hfYw5⟩ := bcell Yw5.out
  have hzw5 := hb.size
  try simp at hzw5
  clear hb
  clear l0 l1
  have l0 : w.heap.size < w5.heap.size := by omega
  have l1 : w.heap.size + 1 < w5.heap.size := by omega
  have l2 : w4.heap.size < w5.heap.size := by omega
  go_wp2_with fail
  refine (Digest_v b D d _ d2 101 HD2.out HK2.out (HB.out.below (by repeat (first | exact Below.refl _ _ | exact (Hw5).out | refine below_drewN ?_ _ | refine Below.drew ?_ | refine Below.setCell ?_ (by first | omega | (simp; done) | (simp; omega)) _ | refine Below.alloc ?_ (by first | omega | (simp; done) | (simp; omega)) _))) (HR.out.below (by repeat (first | exact Below.refl _ _ | exact (Hw5).out | refine below_drewN ?_ _ | refine Below.drew ?_ | refine Below.setCell ?_ (by first | omega | (simp; done) | (simp; omega)) _ | refine Below.alloc ?_ (by first | omega | (simp; done) | (simp; omega)) _))).rdy).mono ?_
  rintro e w6 ⟨rfl, hb⟩
  have Hw6 : Hid (Below (w.heap.size) (w) w6) := (show Below (w.heap.size) (w) _ from (by repeat (first | exact Below.refl _ _ | exact (Hw5).out | refine below_drewN ?_ _ | refine Below.drew ?_ | refine Below.setCell ?_ (by first | omega | (simp; done) | (simp; omega)) _ | refine Below.alloc ?_ (by first | omega | (simp; done) | (simp; omega)) _))).trans (hb.mono (by first | omega | (simp; done) | (simp; omega)))
  have Pw6 : Hid (Below (w.heap.size + 1 + 1) ((w.alloc (.cells #[.string a.ev, .int .i64 a.ver, .int .i64 a.tm, .int .i64 a.n, .int .i64 a.of, .int .i64 a.grid, .slice A a.cells.length c, .bool a.wd, .int .i64 a.before] 48)).alloc (.cells #[.string b.ev, .int .i64 b.ver, .int .i64 b.tm, .int .i64 b.n, .int .i64 b.of, .int .i64 b.grid, .slice D b.cells.length d, .bool b.wd, .int .i64 b.before] 48)) w6) := (show Below (w.heap.size + 1 + 1) ((w.alloc (.cells #[.string a.ev, .int .i64 a.ver, .int .i64 a.tm, .int .i64 a.n, .int .i64 a.of, .int .i64 a.grid, .slice A a.cells.length c, .bool a.wd, .int .i64 a.before] 48)).alloc (.cells #[.string b.ev, .int .i64 b.ver, .int .i64 b.tm, .int .i64 b.n, .int .i64 b.of, .int .i64 b.grid, .slice D b.cells.length d, .bool b.wd, .int .i64 b.before] 48)) _ from (by repeat (first | exact Below.refl _ _ | exact (Pw5).out | refine below_drewN ?_ _ | refine Below.drew ?_ | refine Below.setCell ?_ (by first | omega | (simp; done) | (simp; omega)) _ | refine Below.alloc ?_ (by first | omega | (simp; done) | (simp; omega)) _))).trans (hb.mono (by first | omega | (simp; done) | (simp; omega)))
  obtain ⟨hcPw6, hfPw6⟩ := bcell Pw6.out
  clear hcPw5 hfPw5
  have Rw6 : Hid (Below (w4.heap.size) (w4) w6) := (show Below (w4.heap.size) (w4) _ from (by repeat (first | exact Below.refl _ _ | exact (Rw5).out | refine below_drewN ?_ _ | refine Below.drew ?_ | refine Below.setCell ?_ (by first | omega | (simp; done) | (simp; omega)) _ | refine Below.alloc ?_ (by first | omega | (simp; done) | (simp; omega)) _))).trans (hb.mono (by first | omega | (simp; done) | (simp; omega)))
  have Yw6 : Hid (Below (w4.heap.size + 1) (w4.alloc (.cells #[.string a.ev, .int .i64 a.ver, .int .i64 a.tm, .int .i64 a.n, .int .i64 a.of, .int .i64 a.grid, .slice A6 a.cells.length c6, .bool a.wd, .int .i64 a.before] 48)) w6) := (show Below (w4.heap.size + 1) (w4.alloc (.cells #[.string a.ev, .int .i64 a.ver, .int .i64 a.tm, .int .i64 a.n, .int .i64 a.of, .int .i64 a.grid, .slice A6 a.cells.length c6, .bool a.wd, .int .i64 a.before] 48)) _ from (by repeat (first | exact Below.refl _ _ | exact (Yw5).out | refine below_drewN ?_ _ | refine Below.drew ?_ | refine Below.setCell ?_ (by first | omega | (simp; done) | (simp; omega)) _ | refine Below.alloc ?_ (by first | omega | (simp; done) | (simp; omega)) _))).trans (hb.mono (by first | omega | (simp; done) | (simp; omega)))
  obtain ⟨hcYw6, hfYw6⟩ := bcell Yw6.out
  clear hcYw5 hfYw5
  have hzw6 := hb.size
  try simp at hzw6
  clear hb
  clear l0 l1 l2
  have l0 : w.heap.size < w6.heap.size := by omega
  have l1 : w.heap.size + 1 < w6.heap.size := by omega
  have l2 : w4.heap.size < w6.heap.size := by omega
  go_wp2_with fail
  refine (pSame_ a a A c A6 c6 _ (HA.out.below (by repeat (first | exact Below.refl _ _ | exact (Hw6).out | refine below_drewN ?_ _ | refine Below.drew ?_ | refine Below.setCell ?_ (by first | omega | (simp; done) | (simp; omega)) _ | refine Below.alloc ?_ (by first | omega | (simp; done) | (simp; omega)) _))) (HX6.out.below (by repeat (first | exact Below.refl _ _ | exact (Rw6).out | refine below_drewN ?_ _ | refine Below.drew ?_ | refine Below.setCell ?_ (by first | omega | (simp; done) | (simp; omega)) _ | refine Below.alloc ?_ (by first | omega | (simp; done) | (simp; omega)) _))) true (sameB_refl a)).mono ?_
  rintro e w7 ⟨rfl, hb⟩
  have Hw7 : Hid (Below (w.heap.size) (w) w7) := (show Below (w.heap.size) (w) _ from (by repeat (first | exact Below.refl _ _ | exact (Hw6).out | refine below_drewN ?_ _ | refine Below.drew ?_ | refine Below.setCell ?_ (by first | omega | (simp; done) | (simp; omega)) _ | refine Below.alloc ?_ (by first | omega | (simp; done) | (simp; omega)) _))).trans (hb.mono (by first | omega | (simp; done) | (simp; omega)))
  have Pw7 : Hid (Below (w.heap.size + 1 + 1) ((w.alloc (.cells #[.string a.ev, .int .i64 a.ver, .int .i64 a.tm, .int .i64 a.n, .int .i64 a.of, .int .i64 a.grid, .slice A a.cells.length c, .bool a.wd, .int .i64 a.before] 48)).alloc (.cells #[.string b.ev, .int .i64 b.ver, .int .i64 b.tm, .int .i64 b.n, .int .i64 b.of, .int .i64 b.grid, .slice D b.cells.length d, .bool b.wd, .int .i64 b.before] 48)) w7) := (show Below (w.heap.size + 1 + 1) ((w.alloc (.cells #[.string a.ev, .int .i64 a.ver, .int .i64 a.tm, .int .i64 a.n, .int .i64 a.of, .int .i64 a.grid, .slice A a.cells.length c, .bool a.wd, .int .i64 a.before] 48)).alloc (.cells #[.string b.ev, .int .i64 b.ver, .int .i64 b.tm, .int .i64 b.n, .int .i64 b.of, .int .i64 b.grid, .slice D b.cells.length d, .bool b.wd, .int .i64 b.before] 48)) _ from (by repeat (first | exact Below.refl _ _ | exact (Pw6).out | refine below_drewN ?_ _ | refine Below.drew ?_ | refine Below.setCell ?_ (by first | omega | (simp; done) | (simp; omega)) _ | refine Below.alloc ?_ (by first | omega | (simp; done) | (simp; omega)) _))).trans (hb.mono (by first | omega | (simp; done) | (simp; omega)))
  obtain ⟨hcPw7, hfPw7⟩ := bcell Pw7.out
  clear hcPw6 hfPw6
  have Rw7 : Hid (Below (w4.heap.size) (w4) w7) := (show Below (w4.heap.size) (w4) _ from (by repeat (first | exact Below.refl _ _ | exact (Rw6).out | refine below_drewN ?_ _ | refine Below.drew ?_ | refine Below.setCell ?_ (by first | omega | (simp; done) | (simp; omega)) _ | refine Below.alloc ?_ (by first | omega | (simp; done) | (simp; omega)) _))).trans (hb.mono (by first | omega | (simp; done) | (simp; omega)))
  have Yw7 : Hid (Below (w4.heap.size + 1) (w4.alloc (.cells #[.string a.ev, .int .i64 a.ver, .int .i64 a.tm, .int .i64 a.n, .int .i64 a.of, .int .i64 a.grid, .slice A6 a.cells.length c6, .bool a.wd, .int .i64 a.before] 48)) w7) := (show Below (w4.heap.size + 1) (w4.alloc (.cells #[.string a.ev, .int .i64 a.ver, .int .i64 a.tm, .int .i64 a.n, .int .i64 a.of, .int .i64 a.grid, .slice A6 a.cells.length c6, .bool a.wd, .int .i64 a.before] 48)) _ from (by repeat (first | exact Below.refl _ _ | exact (Yw6).out | refine below_drewN ?_ _ | refine Below.drew ?_ | refine Below.setCell ?_ (by first | omega | (simp; done) | (simp; omega)) _ | refine Below.alloc ?_ (by first | omega | (simp; done) | (simp; omega)) _))).trans (hb.mono (by first | omega | (simp; done) | (simp; omega)))
  obtain ⟨hcYw7, hfYw7⟩ := bcell Yw7.out
  clear hcYw6 hfYw6
  have hzw7 := hb.size
  try simp at hzw7
  clear hb
  clear l0 l1 l2
  have l0 : w.heap.size < w7.heap.size := by omega
  have l1 : w.heap.size + 1 < w7.heap.size := by omega
  have l2 : w4.heap.size < w7.heap.size := by omega
  clear hcYw7 hfYw7
  go_wp2_with fail
  refine (works_ _ (HR.out.below (by repeat (first | exact Below.refl _ _ | exact (Hw7).out | refine below_drewN ?_ _ | refine Below.drew ?_ | refine Below.setCell ?_ (by first | omega | (simp; done) | (simp; omega)) _ | refine Below.alloc ?_ (by first | omega | (simp; done) | (simp; omega)) _))).rdy).mono ?_
  rintro e w8 ⟨rfl, hb⟩
  have Hw8 : Hid (Below (w.heap.size) (w) w8) := (show Below (w.heap.size) (w) _ from (by repeat (first | exact Below.refl _ _ | exact (Hw7).out | refine below_drewN ?_ _ | refine Below.drew ?_ | refine Below.setCell ?_ (by first | omega | (simp; done) | (simp; omega)) _ | refine Below.alloc ?_ (by first | omega | (simp; done) | (simp; omega)) _))).trans (hb.mono (by first | omega | (simp; done) | (simp; omega)))
  have Pw8 : Hid (Below (w.heap.size + 1 + 1) ((w.alloc (.cells #[.string a.ev, .int .i64 a.ver, .int .i64 a.tm, .int .i64 a.n, .int .i64 a.of, .int .i64 a.grid, .slice A a.cells.length c, .bool a.wd, .int .i64 a.before] 48)).alloc (.cells #[.string b.ev, .int .i64 b.ver, .int .i64 b.tm, .int .i64 b.n, .int .i64 b.of, .int .i64 b.grid, .slice D b.cells.length d, .bool b.wd, .int .i64 b.before] 48)) w8) := (show Below (w.heap.size + 1 + 1) ((w.alloc (.cells #[.string a.ev, .int .i64 a.ver, .int .i64 a.tm, .int .i64 a.n, .int .i64 a.of, .int .i64 a.grid, .slice A a.cells.length c, .bool a.wd, .int .i64 a.before] 48)).alloc (.cells #[.string b.ev, .int .i64 b.ver, .int .i64 b.tm, .int .i64 b.n, .int .i64 b.of, .int .i64 b.grid, .slice D b.cells.length d, .bool b.wd, .int .i64 b.before] 48)) _ from (by repeat (first | exact Below.refl _ _ | exact (Pw7).out | refine below_drewN ?_ _ | refine Below.drew ?_ | refine Below.setCell ?_ (by first | omega | (simp; done) | (simp; omega)) _ | refine Below.alloc ?_ (by first | omega | (simp; done) | (simp; omega)) _))).trans (hb.mono (by first | omega | (simp; done) | (simp; omega)))
  obtain ⟨hcPw8, hfPw8⟩ := bcell Pw8.out
  clear hcPw7 hfPw7
  have hzw8 := hb.size
  try simp at hzw8
  clear hb
  clear l0 l1 l2
  have l0 : w.heap.size < w8.heap.size := by omega
  have l1 : w.heap.size + 1 < w8.heap.size := by omega
  go_wp2_with fail
  go_ret
  exact ⟨rfl, Hw8.out⟩
set_option maxRecDepth 100000 in
set_option maxHeartbeats 16000000 in
theorem lback_0e (a x : Alr) (A : Option Addr) (c : Nat) (D : Option Addr) (d : Nat) (s : ByteArray) (w : World) (ha : AIn w a A c) (hb : AIn w a D d) (hs : s.size ≤ maxLen) (hr : RdyP w) (k : Int) (hk : (k == 0) = false) (hx : parseR parseB s.data.toList = (x, k)) (h1 : okA a = true) :
    Calls Tryz.prog 10 #[a.val A c, a.val D d, .string s] w fun e w' => e = .returned (.bool true) ∧ Below w.heap.size w w' := by
  have HA := Lib.hid ha
  have HB := Lib.hid hb
  have HR := Lib.hid hr
  have HX := Lib.hid hx
  have HS := Lib.hid hs
  have H1 := Lib.hid (printR_t h1)
  have HP := Lib.hid (parse_back h1)
  have HM := Lib.hid (txS_max h1)
  have HEV := Lib.hid ha.ev
  have HK1 : Hid (errA (okA a) 101 = 0) := errA_t h1
  obtain ⟨ta, hta⟩ : ∃ t, t = txS a := ⟨_, rfl⟩
  rw [← hta] at H1 HP HM
  have q1 : (ta.toList == ta.toList) = true := by simp
  obtain ⟨d1, hd1⟩ : ∃ d, digE a = d := ⟨_, rfl⟩
  have HD1 := Lib.hid hd1
  have q2 : (d1 == d1) = true := by simp
  have H2 := H1
  have HK2 := HK1
  have HD2 := HD1
  clear hd1 hta
  clear ha hb hr hx hs h1
  go_enter Tryz.func10, Tryz.ntmps10
  go_wp2_with fail
  refine (Parse_v s _ x k HX.out HS.out (HR.out.below (by repeat (first | exact Below.refl _ _ | assumption | refine below_drewN ?_ _ | refine Below.drew ?_ | refine Below.setCell ?_ (by first | omega | (simp; done) | (simp; omega)) _ | refine Below.alloc ?_ (by first | omega | (simp; done) | (simp; omega)) _)))).mono ?_
  rintro e w1 ⟨A1, c1, rfl, ho1, hb⟩
  clear ho1
  have Hw1 : Hid (Below (w.heap.size) (w) w1) := (show Below (w.heap.size) (w) _ from (by repeat (first | exact Below.refl _ _ | assumption | refine below_drewN ?_ _ | refine Below.drew ?_ | refine Below.setCell ?_ (by first | omega | (simp; done) | (simp; omega)) _ | refine Below.alloc ?_ (by first | omega | (simp; done) | (simp; omega)) _))).trans (hb.mono (by first | omega | (simp; done) | (simp; omega)))
  have Pw1 : Hid (Below (w.heap.size + 1 + 1) ((w.alloc (.cells #[.string a.ev, .int .i64 a.ver, .int .i64 a.tm, .int .i64 a.n, .int .i64 a.of, .int .i64 a.grid, .slice A a.cells.length c, .bool a.wd, .int .i64 a.before] 48)).alloc (.cells #[.string a.ev, .int .i64 a.ver, .int .i64 a.tm, .int .i64 a.n, .int .i64 a.of, .int .i64 a.grid, .slice D a.cells.length d, .bool a.wd, .int .i64 a.before] 48)) w1) := (show Below (w.heap.size + 1 + 1) ((w.alloc (.cells #[.string a.ev, .int .i64 a.ver, .int .i64 a.tm, .int .i64 a.n, .int .i64 a.of, .int .i64 a.grid, .slice A a.cells.length c, .bool a.wd, .int .i64 a.before] 48)).alloc (.cells #[.string a.ev, .int .i64 a.ver, .int .i64 a.tm, .int .i64 a.n, .int .i64 a.of, .int .i64 a.grid, .slice D a.cells.length d, .bool a.wd, .int .i64 a.before] 48)) _ from (by repeat (first | exact Below.refl _ _ | assumption | refine below_drewN ?_ _ | refine Below.drew ?_ | refine Below.setCell ?_ (by first | omega | (simp; done) | (simp; omega)) _ | refine Below.alloc ?_ (by first | omega | (simp; done) | (simp; omega)) _))).trans (hb.mono (by first | omega | (simp; done) | (simp; omega)))
  obtain ⟨hcPw1, hfPw1⟩ := bcell Pw1.out
  have hzw1 := hb.size
  try simp at hzw1
  clear hb
  have l0 : w.heap.size < w1.heap.size := by omega
  have l1 : w.heap.size + 1 < w1.heap.size := by omega
  go_wp2_with fail
  refine (Print_v a A c _ ta 0 H1.out (HA.out.below (by repeat (first | exact Below.refl _ _ | exact (Hw1).out | refine below_drewN ?_ _ | refine Below.drew ?_ | refine Below.setCell ?_ (by first | omega | (simp; done) | (simp; omega)) _ | refine Below.alloc ?_ (by first | omega | (simp; done) | (simp; omega)) _))) (HR.out.below (by repeat (first | exact Below.refl _ _ | exact (Hw1).out | refine below_drewN ?_ _ | refine Below.drew ?_ | refine Below.setCell ?_ (by first | omega | (simp; done) | (simp; omega)) _ | refine Below.alloc ?_ (by first | omega | (simp; done) | (simp; omega)) _))).rdy).mono ?_
  rintro e w2 ⟨rfl, hb⟩
  have Hw2 : Hid (Below (w.heap.size) (w) w2) := (show Below (w.heap.size) (w) _ from (by repeat (first | exact Below.refl _ _ | exact (Hw1).out | refine below_drewN ?_ _ | refine Below.drew ?_ | refine Below.setCell ?_ (by first | omega | (simp; done) | (simp; omega)) _ | refine Below.alloc ?_ (by first | omega | (simp; done) | (simp; omega)) _))).trans (hb.mono (by first | omega | (simp; done) | (simp; omega)))
  have Pw2 : Hid (Below (w.heap.size + 1 + 1) ((w.alloc (.cells #[.string a.ev, .int .i64 a.ver, .int .i64 a.tm, .int .i64 a.n, .int .i64 a.of, .int .i64 a.grid, .slice A a.cells.length c, .bool a.wd, .int .i64 a.before] 48)).alloc (.cells #[.string a.ev, .int .i64 a.ver, .int .i64 a.tm, .int .i64 a.n, .int .i64 a.of, .int .i64 a.grid, .slice D a.cells.length d, .bool a.wd, .int .i64 a.before] 48)) w2) := (show Below (w.heap.size + 1 + 1) ((w.alloc (.cells #[.string a.ev, .int .i64 a.ver, .int .i64 a.tm, .int .i64 a.n, .int .i64 a.of, .int .i64 a.grid, .slice A a.cells.length c, .bool a.wd, .int .i64 a.before] 48)).alloc (.cells #[.string a.ev, .int .i64 a.ver, .int .i64 a.tm, .int .i64 a.n, .int .i64 a.of, .int .i64 a.grid, .slice D a.cells.length d, .bool a.wd, .int .i64 a.before] 48)) _ from (by repeat (first | exact Below.refl _ _ | exact (Pw1).out | refine below_drewN ?_ _ | refine Below.drew ?_ | refine Below.setCell ?_ (by first | omega | (simp; done) | (simp; omega)) _ | refine Below.alloc ?_ (by first | omega | (simp; done) | (simp; omega)) _))).trans (hb.mono (by first | omega | (simp; done) | (simp; omega)))
  obtain ⟨hcPw2, hfPw2⟩ := bcell Pw2.out
  clear hcPw1 hfPw1
  have hzw2 := hb.size
  try simp at hzw2
  clear hb
  clear l0 l1
  have l0 : w.heap.size < w2.heap.size := by omega
  have l1 : w.heap.size + 1 < w2.heap.size := by omega
  go_wp2_with fail
  refine (Print_v a D d _ ta 0 H2.out (HB.out.below (by repeat (first | exact Below.refl _ _ | exact (Hw2).out | refine below_drewN ?_ _ | refine Below.drew ?_ | refine Below.setCell ?_ (by first | omega | (simp; done) | (simp; omega)) _ | refine Below.alloc ?_ (by first | omega | (simp; done) | (simp; omega)) _))) (HR.out.below (by repeat (first | exact Below.refl _ _ | exact (Hw2).out | refine below_drewN ?_ _ | refine Below.drew ?_ | refine Below.setCell ?_ (by first | omega | (simp; done) | (simp; omega)) _ | refine Below.alloc ?_ (by first | omega | (simp; done) | (simp; omega)) _))).rdy).mono ?_
  rintro e w3 ⟨rfl, hb⟩
  have Hw3 : Hid (Below (w.heap.size) (w) w3) := (show Below (w.heap.size) (w) _ from (by repeat (first | exact Below.refl _ _ | exact (Hw2).out | refine below_drewN ?_ _ | refine Below.drew ?_ | refine Below.setCell ?_ (by first | omega | (simp; done) | (simp; omega)) _ | refine Below.alloc ?_ (by first | omega | (simp; done) | (simp; omega)) _))).trans (hb.mono (by first | omega | (simp; done) | (simp; omega)))
  have Pw3 : Hid (Below (w.heap.size + 1 + 1) ((w.alloc (.cells #[.string a.ev, .int .i64 a.ver, .int .i64 a.tm, .int .i64 a.n, .int .i64 a.of, .int .i64 a.grid, .slice A a.cells.length c, .bool a.wd, .int .i64 a.before] 48)).alloc (.cells #[.string a.ev, .int .i64 a.ver, .int .i64 a.tm, .int .i64 a.n, .int .i64 a.of, .int .i64 a.grid, .slice D a.cells.length d, .bool a.wd, .int .i64 a.before] 48)) w3) := (show Below (w.heap.size + 1 + 1) ((w.alloc (.cells #[.string a.ev, .int .i64 a.ver, .int .i64 a.tm, .int .i64 a.n, .int .i64 a.of, .int .i64 a.grid, .slice A a.cells.length c, .bool a.wd, .int .i64 a.before] 48)).alloc (.cells #[.string a.ev, .int .i64 a.ver, .int .i64 a.tm, .int .i64 a.n, .int .i64 a.of, .int .i64 a.grid, .slice D a.cells.length d, .bool a.wd, .int .i64 a.before] 48)) _ from (by repeat (first | exact Below.refl _ _ | exact (Pw2).out | refine below_drewN ?_ _ | refine Below.drew ?_ | refine Below.setCell ?_ (by first | omega | (simp; done) | (simp; omega)) _ | refine Below.alloc ?_ (by first | omega | (simp; done) | (simp; omega)) _))).trans (hb.mono (by first | omega | (simp; done) | (simp; omega)))
  obtain ⟨hcPw3, hfPw3⟩ := bcell Pw3.out
  clear hcPw2 hfPw2
  have hzw3 := hb.size
  try simp at hzw3
  clear hb
  clear l0 l1
  have l0 : w.heap.size < w3.heap.size := by omega
  have l1 : w.heap.size + 1 < w3.heap.size := by omega
  go_wp2_with fail
  refine (Parse_v ta _ a 0 HP.out HM.out (HR.out.below (by repeat (first | exact Below.refl _ _ | exact (Hw3).out | refine below_drewN ?_ _ | refine Below.drew ?_ | refine Below.setCell ?_ (by first | omega | (simp; done) | (simp; omega)) _ | refine Below.alloc ?_ (by first | omega | (simp; done) | (simp; omega)) _)))).mono ?_
  rintro e w4 ⟨A6, c6, rfl, ho6, hb⟩
  have Hw4 : Hid (Below (w.heap.size) (w) w4) := (show Below (w.heap.size) (w) _ from (by repeat (first | exact Below.refl _ _ | exact (Hw3).out | refine below_drewN ?_ _ | refine Below.drew ?_ | refine Below.setCell ?_ (by first | omega | (simp; done) | (simp; omega)) _ | refine Below.alloc ?_ (by first | omega | (simp; done) | (simp; omega)) _))).trans (hb.mono (by first | omega | (simp; done) | (simp; omega)))
  have Pw4 : Hid (Below (w.heap.size + 1 + 1) ((w.alloc (.cells #[.string a.ev, .int .i64 a.ver, .int .i64 a.tm, .int .i64 a.n, .int .i64 a.of, .int .i64 a.grid, .slice A a.cells.length c, .bool a.wd, .int .i64 a.before] 48)).alloc (.cells #[.string a.ev, .int .i64 a.ver, .int .i64 a.tm, .int .i64 a.n, .int .i64 a.of, .int .i64 a.grid, .slice D a.cells.length d, .bool a.wd, .int .i64 a.before] 48)) w4) := (show Below (w.heap.size + 1 + 1) ((w.alloc (.cells #[.string a.ev, .int .i64 a.ver, .int .i64 a.tm, .int .i64 a.n, .int .i64 a.of, .int .i64 a.grid, .slice A a.cells.length c, .bool a.wd, .int .i64 a.before] 48)).alloc (.cells #[.string a.ev, .int .i64 a.ver, .int .i64 a.tm, .int .i64 a.n, .int .i64 a.of, .int .i64 a.grid, .slice D a.cells.length d, .bool a.wd, .int .i64 a.before] 48)) _ from (by repeat (first | exact Below.refl _ _ | exact (Pw3).out | refine below_drewN ?_ _ | refine Below.drew ?_ | refine Below.setCell ?_ (by first | omega | (simp; done) | (simp; omega)) _ | refine Below.alloc ?_ (by first | omega | (simp; done) | (simp; omega)) _))).trans (hb.mono (by first | omega | (simp; done) | (simp; omega)))
  obtain ⟨hcPw4, hfPw4⟩ := bcell Pw4.out
  clear hcPw3 hfPw3
  have hzw4 := hb.size
  try simp at hzw4
  clear hb
  clear l0 l1
  have l0 : w.heap.size < w4.heap.size := by omega
  have l1 : w.heap.size + 1 < w4.heap.size := by omega
  have HX6 : Hid (AIn w4 a A6 c6) := own_in HEV.out ho6
  clear ho6
  go_wp2_with fail
  refine (Digest_v a A c _ d1 0 HD1.out HK1.out (HA.out.below (by repeat (first | exact Below.refl _ _ | exact (Hw4).out | refine below_drewN ?_ _ | refine Below.drew ?_ | refine Below.setCell ?_ (by first | omega | (simp; done) | (simp; omega)) _ | refine Below.alloc ?_ (by first | omega | (simp; done) | (simp; omega)) _))) (HR.out.below (by repeat (first | exact Below.refl _ _ | exact (Hw4).out | refine below_drewN ?_ _ | refine Below.drew ?_ | refine Below.setCell ?_ (by first | omega | (simp; done) | (simp; omega)) _ | refine Below.alloc ?_ (by first | omega | (simp; done) | (simp; omega)) _))).rdy).mono ?_
  rintro e w5 ⟨rfl, hb⟩
  have Hw5 : Hid (Below (w.heap.size) (w) w5) := (show Below (w.heap.size) (w) _ from (by repeat (first | exact Below.refl _ _ | exact (Hw4).out | refine below_drewN ?_ _ | refine Below.drew ?_ | refine Below.setCell ?_ (by first | omega | (simp; done) | (simp; omega)) _ | refine Below.alloc ?_ (by first | omega | (simp; done) | (simp; omega)) _))).trans (hb.mono (by first | omega | (simp; done) | (simp; omega)))
  have Pw5 : Hid (Below (w.heap.size + 1 + 1) ((w.alloc (.cells #[.string a.ev, .int .i64 a.ver, .int .i64 a.tm, .int .i64 a.n, .int .i64 a.of, .int .i64 a.grid, .slice A a.cells.length c, .bool a.wd, .int .i64 a.before] 48)).alloc (.cells #[.string a.ev, .int .i64 a.ver, .int .i64 a.tm, .int .i64 a.n, .int .i64 a.of, .int .i64 a.grid, .slice D a.cells.length d, .bool a.wd, .int .i64 a.before] 48)) w5) := (show Below (w.heap.size + 1 + 1) ((w.alloc (.cells #[.string a.ev, .int .i64 a.ver, .int .i64 a.tm, .int .i64 a.n, .int .i64 a.of, .int .i64 a.grid, .slice A a.cells.length c, .bool a.wd, .int .i64 a.before] 48)).alloc (.cells #[.string a.ev, .int .i64 a.ver, .int .i64 a.tm, .int .i64 a.n, .int .i64 a.of, .int .i64 a.grid, .slice D a.cells.length d, .bool a.wd, .int .i64 a.before] 48)) _ from (by repeat (first | exact Below.refl _ _ | exact (Pw4).out | refine below_drewN ?_ _ | refine Below.drew ?_ | refine Below.setCell ?_ (by first | omega | (simp; done) | (simp; omega)) _ | refine Below.alloc ?_ (by first | omega | (simp; done) | (simp; omega)) _))).trans (hb.mono (by first | omega | (simp; done) | (simp; omega)))
  obtain ⟨hcPw5, hfPw5⟩ := bcell Pw5.out
  clear hcPw4 hfPw4
  have Rw5 : Hid (Below (w4.heap.size) (w4) w5) := (show Below (w4.heap.size) (w4) _ from (by repeat (first | exact Below.refl _ _ | assumption | refine below_drewN ?_ _ | refine Below.drew ?_ | refine Below.setCell ?_ (by first | omega | (simp; done) | (simp; omega)) _ | refine Below.alloc ?_ (by first | omega | (simp; done) | (simp; omega)) _))).trans (hb.mono (by first | omega | (simp; done) | (simp; omega)))
  have Yw5 : Hid (Below (w4.heap.size + 1) (w4.alloc (.cells #[.string a.ev, .int .i64 a.ver, .int .i64 a.tm, .int .i64 a.n, .int .i64 a.of, .int .i64 a.grid, .slice A6 a.cells.length c6, .bool a.wd, .int .i64 a.before] 48)) w5) := (show Below (w4.heap.size + 1) (w4.alloc (.cells #[.string a.ev, .int .i64 a.ver, .int .i64 a.tm, .int .i64 a.n, .int .i64 a.of, .int .i64 a.grid, .slice A6 a.cells.length c6, .bool a.wd, .int .i64 a.before] 48)) _ from (by repeat (first | exact Below.refl _ _ | assumption | refine below_drewN ?_ _ | refine Below.drew ?_ | refine Below.setCell ?_ (by first | omega | (simp; done) | (simp; omega)) _ | refine Below.alloc ?_ (by first | omega | (simp; done) | (simp; omega)) _))).trans (hb.mono (by first | omega | (simp; done) | (simp; omega)))
  obtain ⟨hcYw5, hfYw5⟩ := bcell Yw5.out
  have hzw5 := hb.size
  try simp at hzw5
  clear hb
  clear l0 l1
  have l0 : w.heap.size < w5.heap.size := by omega
  have l1 : w.heap.size + 1 < w5.heap.size := by omega
  have l2 : w4.heap.size < w5.heap.size := by omega
  go_wp2_with fail
  refine (Digest_v a D d _ d1 0 HD2.out HK2.out (HB.out.below (by repeat (first | exact Below.refl _ _ | exact (Hw5).out | refine below_drewN ?_ _ | refine Below.drew ?_ | refine Below.setCell ?_ (by first | omega | (simp; done) | (simp; omega)) _ | refine Below.alloc ?_ (by first | omega | (simp; done) | (simp; omega)) _))) (HR.out.below (by repeat (first | exact Below.refl _ _ | exact (Hw5).out | refine below_drewN ?_ _ | refine Below.drew ?_ | refine Below.setCell ?_ (by first | omega | (simp; done) | (simp; omega)) _ | refine Below.alloc ?_ (by first | omega | (simp; done) | (simp; omega)) _))).rdy).mono ?_
  rintro e w6 ⟨rfl, hb⟩
  have Hw6 : Hid (Below (w.heap.size) (w) w6) := (show Below (w.heap.size) (w) _ from (by repeat (first | exact Below.refl _ _ | exact (Hw5).out | refine below_drewN ?_ _ | refine Below.drew ?_ | refine Below.setCell ?_ (by first | omega | (simp; done) | (simp; omega)) _ | refine Below.alloc ?_ (by first | omega | (simp; done) | (simp; omega)) _))).trans (hb.mono (by first | omega | (simp; done) | (simp; omega)))
  have Pw6 : Hid (Below (w.heap.size + 1 + 1) ((w.alloc (.cells #[.string a.ev, .int .i64 a.ver, .int .i64 a.tm, .int .i64 a.n, .int .i64 a.of, .int .i64 a.grid, .slice A a.cells.length c, .bool a.wd, .int .i64 a.before] 48)).alloc (.cells #[.string a.ev, .int .i64 a.ver, .int .i64 a.tm, .int .i64 a.n, .int .i64 a.of, .int .i64 a.grid, .slice D a.cells.length d, .bool a.wd, .int .i64 a.before] 48)) w6) := (show Below (w.heap.size + 1 + 1) ((w.alloc (.cells #[.string a.ev, .int .i64 a.ver, .int .i64 a.tm, .int .i64 a.n, .int .i64 a.of, .int .i64 a.grid, .slice A a.cells.length c, .bool a.wd, .int .i64 a.before] 48)).alloc (.cells #[.string a.ev, .int .i64 a.ver, .int .i64 a.tm, .int .i64 a.n, .int .i64 a.of, .int .i64 a.grid, .slice D a.cells.length d, .bool a.wd, .int .i64 a.before] 48)) _ from (by repeat (first | exact Below.refl _ _ | exact (Pw5).out | refine below_drewN ?_ _ | refine Below.drew ?_ | refine Below.setCell ?_ (by first | omega | (simp; done) | (simp; omega)) _ | refine Below.alloc ?_ (by first | omega | (simp; done) | (simp; omega)) _))).trans (hb.mono (by first | omega | (simp; done) | (simp; omega)))
  obtain ⟨hcPw6, hfPw6⟩ := bcell Pw6.out
  clear hcPw5 hfPw5
  have Rw6 : Hid (Below (w4.heap.size) (w4) w6) := (show Below (w4.heap.size) (w4) _ from (by repeat (first | exact Below.refl _ _ | exact (Rw5).out | refine below_drewN ?_ _ | refine Below.drew ?_ | refine Below.setCell ?_ (by first | omega | (simp; done) | (simp; omega)) _ | refine Below.alloc ?_ (by first | omega | (simp; done) | (simp; omega)) _))).trans (hb.mono (by first | omega | (simp; done) | (simp; omega)))
  have Yw6 : Hid (Below (w4.heap.size + 1) (w4.alloc (.cells #[.string a.ev, .int .i64 a.ver, .int .i64 a.tm, .int .i64 a.n, .int .i64 a.of, .int .i64 a.grid, .slice A6 a.cells.length c6, .bool a.wd, .int .i64 a.before] 48)) w6) := (show Below (w4.heap.size + 1) (w4.alloc (.cells #[.string a.ev, .int .i64 a.ver, .int .i64 a.tm, .int .i64 a.n, .int .i64 a.of, .int .i64 a.grid, .slice A6 a.cells.length c6, .bool a.wd, .int .i64 a.before] 48)) _ from (by repeat (first | exact Below.refl _ _ | exact (Yw5).out | refine below_drewN ?_ _ | refine Below.drew ?_ | refine Below.setCell ?_ (by first | omega | (simp; done) | (simp; omega)) _ | refine Below.alloc ?_ (by first | omega | (simp; done) | (simp; omega)) _))).trans (hb.mono (by first | omega | (simp; done) | (simp; omega)))
  obtain ⟨hcYw6, hfYw6⟩ := bcell Yw6.out
  clear hcYw5 hfYw5
  have hzw6 := hb.size
  try simp at hzw6
  clear hb
  clear l0 l1 l2
  have l0 : w.heap.size < w6.heap.size := by omega
  have l1 : w.heap.size + 1 < w6.heap.size := by omega
  have l2 : w4.heap.size < w6.heap.size := by omega
  go_wp2_with fail
  refine (pSame_ a a A c A6 c6 _ (HA.out.below (by repeat (first | exact Below.refl _ _ | exact (Hw6).out | refine below_drewN ?_ _ | refine Below.drew ?_ | refine Below.setCell ?_ (by first | omega | (simp; done) | (simp; omega)) _ | refine Below.alloc ?_ (by first | omega | (simp; done) | (simp; omega)) _))) (HX6.out.below (by repeat (first | exact Below.refl _ _ | exact (Rw6).out | refine below_drewN ?_ _ | refine Below.drew ?_ | refine Below.setCell ?_ (by first | omega | (simp; done) | (simp; omega)) _ | refine Below.alloc ?_ (by first | omega | (simp; done) | (simp; omega)) _))) true (sameB_refl a)).mono ?_
  rintro e w7 ⟨rfl, hb⟩
  have Hw7 : Hid (Below (w.heap.size) (w) w7) := (show Below (w.heap.size) (w) _ from (by repeat (first | exact Below.refl _ _ | exact (Hw6).out | refine below_drewN ?_ _ | refine Below.drew ?_ | refine Below.setCell ?_ (by first | omega | (simp; done) | (simp; omega)) _ | refine Below.alloc ?_ (by first | omega | (simp; done) | (simp; omega)) _))).trans (hb.mono (by first | omega | (simp; done) | (simp; omega)))
  have Pw7 : Hid (Below (w.heap.size + 1 + 1) ((w.alloc (.cells #[.string a.ev, .int .i64 a.ver, .int .i64 a.tm, .int .i64 a.n, .int .i64 a.of, .int .i64 a.grid, .slice A a.cells.length c, .bool a.wd, .int .i64 a.before] 48)).alloc (.cells #[.string a.ev, .int .i64 a.ver, .int .i64 a.tm, .int .i64 a.n, .int .i64 a.of, .int .i64 a.grid, .slice D a.cells.length d, .bool a.wd, .int .i64 a.before] 48)) w7) := (show Below (w.heap.size + 1 + 1) ((w.alloc (.cells #[.string a.ev, .int .i64 a.ver, .int .i64 a.tm, .int .i64 a.n, .int .i64 a.of, .int .i64 a.grid, .slice A a.cells.length c, .bool a.wd, .int .i64 a.before] 48)).alloc (.cells #[.string a.ev, .int .i64 a.ver, .int .i64 a.tm, .int .i64 a.n, .int .i64 a.of, .int .i64 a.grid, .slice D a.cells.length d, .bool a.wd, .int .i64 a.before] 48)) _ from (by repeat (first | exact Below.refl _ _ | exact (Pw6).out | refine below_drewN ?_ _ | refine Below.drew ?_ | refine Below.setCell ?_ (by first | omega | (simp; done) | (simp; omega)) _ | refine Below.alloc ?_ (by first | omega | (simp; done) | (simp; omega)) _))).trans (hb.mono (by first | omega | (simp; done) | (simp; omega)))
  obtain ⟨hcPw7, hfPw7⟩ := bcell Pw7.out
  clear hcPw6 hfPw6
  have Rw7 : Hid (Below (w4.heap.size) (w4) w7) := (show Below (w4.heap.size) (w4) _ from (by repeat (first | exact Below.refl _ _ | exact (Rw6).out | refine below_drewN ?_ _ | refine Below.drew ?_ | refine Below.setCell ?_ (by first | omega | (simp; done) | (simp; omega)) _ | refine Below.alloc ?_ (by first | omega | (simp; done) | (simp; omega)) _))).trans (hb.mono (by first | omega | (simp; done) | (simp; omega)))
  have Yw7 : Hid (Below (w4.heap.size + 1) (w4.alloc (.cells #[.string a.ev, .int .i64 a.ver, .int .i64 a.tm, .int .i64 a.n, .int .i64 a.of, .int .i64 a.grid, .slice A6 a.cells.length c6, .bool a.wd, .int .i64 a.before] 48)) w7) := (show Below (w4.heap.size + 1) (w4.alloc (.cells #[.string a.ev, .int .i64 a.ver, .int .i64 a.tm, .int .i64 a.n, .int .i64 a.of, .int .i64 a.grid, .slice A6 a.cells.length c6, .bool a.wd, .int .i64 a.before] 48)) _ from (by repeat (first | exact Below.refl _ _ | exact (Yw6).out | refine below_drewN ?_ _ | refine Below.drew ?_ | refine Below.setCell ?_ (by first | omega | (simp; done) | (simp; omega)) _ | refine Below.alloc ?_ (by first | omega | (simp; done) | (simp; omega)) _))).trans (hb.mono (by first | omega | (simp; done) | (simp; omega)))
  obtain ⟨hcYw7, hfYw7⟩ := bcell Yw7.out
  clear hcYw6 hfYw6
  have hzw7 := hb.size
  try simp at hzw7
  clear hb
  clear l0 l1 l2
  have l0 : w.heap.size < w7.heap.size := by omega
  have l1 : w.heap.size + 1 < w7.heap.size := by omega
  have l2 : w4.heap.size < w7.heap.size := by omega
  clear hcYw7 hfYw7
  go_wp2_with fail
  refine (pSame_ a a A c D d _ (HA.out.below (by repeat (first | exact Below.refl _ _ | exact (Hw7).out | refine below_drewN ?_ _ | refine Below.drew ?_ | refine Below.setCell ?_ (by first | omega | (simp; done) | (simp; omega)) _ | refine Below.alloc ?_ (by first | omega | (simp; done) | (simp; omega)) _))) (HB.out.below (by repeat (first | exact Below.refl _ _ | exact (Hw7).out | refine below_drewN ?_ _ | refine Below.drew ?_ | refine Below.setCell ?_ (by first | omega | (simp; done) | (simp; omega)) _ | refine Below.alloc ?_ (by first | omega | (simp; done) | (simp; omega)) _))) true (sameB_refl a)).mono ?_
  rintro e w8 ⟨rfl, hb⟩
  have Hw8 : Hid (Below (w.heap.size) (w) w8) := (show Below (w.heap.size) (w) _ from (by repeat (first | exact Below.refl _ _ | exact (Hw7).out | refine below_drewN ?_ _ | refine Below.drew ?_ | refine Below.setCell ?_ (by first | omega | (simp; done) | (simp; omega)) _ | refine Below.alloc ?_ (by first | omega | (simp; done) | (simp; omega)) _))).trans (hb.mono (by first | omega | (simp; done) | (simp; omega)))
  have Pw8 : Hid (Below (w.heap.size + 1 + 1) ((w.alloc (.cells #[.string a.ev, .int .i64 a.ver, .int .i64 a.tm, .int .i64 a.n, .int .i64 a.of, .int .i64 a.grid, .slice A a.cells.length c, .bool a.wd, .int .i64 a.before] 48)).alloc (.cells #[.string a.ev, .int .i64 a.ver, .int .i64 a.tm, .int .i64 a.n, .int .i64 a.of, .int .i64 a.grid, .slice D a.cells.length d, .bool a.wd, .int .i64 a.before] 48)) w8) := (show Below (w.heap.size + 1 + 1) ((w.alloc (.cells #[.string a.ev, .int .i64 a.ver, .int .i64 a.tm, .int .i64 a.n, .int .i64 a.of, .int .i64 a.grid, .slice A a.cells.length c, .bool a.wd, .int .i64 a.before] 48)).alloc (.cells #[.string a.ev, .int .i64 a.ver, .int .i64 a.tm, .int .i64 a.n, .int .i64 a.of, .int .i64 a.grid, .slice D a.cells.length d, .bool a.wd, .int .i64 a.before] 48)) _ from (by repeat (first | exact Below.refl _ _ | exact (Pw7).out | refine below_drewN ?_ _ | refine Below.drew ?_ | refine Below.setCell ?_ (by first | omega | (simp; done) | (simp; omega)) _ | refine Below.alloc ?_ (by first | omega | (simp; done) | (simp; omega)) _))).trans (hb.mono (by first | omega | (simp; done) | (simp; omega)))
  obtain ⟨hcPw8, hfPw8⟩ := bcell Pw8.out
  clear hcPw7 hfPw7
  have hzw8 := hb.size
  try simp at hzw8
  clear hb
  clear l0 l1 l2
  have l0 : w.heap.size < w8.heap.size := by omega
  have l1 : w.heap.size + 1 < w8.heap.size := by omega
  go_wp2_with fail
  refine (works_ _ (HR.out.below (by repeat (first | exact Below.refl _ _ | exact (Hw8).out | refine below_drewN ?_ _ | refine Below.drew ?_ | refine Below.setCell ?_ (by first | omega | (simp; done) | (simp; omega)) _ | refine Below.alloc ?_ (by first | omega | (simp; done) | (simp; omega)) _))).rdy).mono ?_
  rintro e w9 ⟨rfl, hb⟩
  have Hw9 : Hid (Below (w.heap.size) (w) w9) := (show Below (w.heap.size) (w) _ from (by repeat (first | exact Below.refl _ _ | exact (Hw8).out | refine below_drewN ?_ _ | refine Below.drew ?_ | refine Below.setCell ?_ (by first | omega | (simp; done) | (simp; omega)) _ | refine Below.alloc ?_ (by first | omega | (simp; done) | (simp; omega)) _))).trans (hb.mono (by first | omega | (simp; done) | (simp; omega)))
  have Pw9 : Hid (Below (w.heap.size + 1 + 1) ((w.alloc (.cells #[.string a.ev, .int .i64 a.ver, .int .i64 a.tm, .int .i64 a.n, .int .i64 a.of, .int .i64 a.grid, .slice A a.cells.length c, .bool a.wd, .int .i64 a.before] 48)).alloc (.cells #[.string a.ev, .int .i64 a.ver, .int .i64 a.tm, .int .i64 a.n, .int .i64 a.of, .int .i64 a.grid, .slice D a.cells.length d, .bool a.wd, .int .i64 a.before] 48)) w9) := (show Below (w.heap.size + 1 + 1) ((w.alloc (.cells #[.string a.ev, .int .i64 a.ver, .int .i64 a.tm, .int .i64 a.n, .int .i64 a.of, .int .i64 a.grid, .slice A a.cells.length c, .bool a.wd, .int .i64 a.before] 48)).alloc (.cells #[.string a.ev, .int .i64 a.ver, .int .i64 a.tm, .int .i64 a.n, .int .i64 a.of, .int .i64 a.grid, .slice D a.cells.length d, .bool a.wd, .int .i64 a.before] 48)) _ from (by repeat (first | exact Below.refl _ _ | exact (Pw8).out | refine below_drewN ?_ _ | refine Below.drew ?_ | refine Below.setCell ?_ (by first | omega | (simp; done) | (simp; omega)) _ | refine Below.alloc ?_ (by first | omega | (simp; done) | (simp; omega)) _))).trans (hb.mono (by first | omega | (simp; done) | (simp; omega)))
  obtain ⟨hcPw9, hfPw9⟩ := bcell Pw9.out
  clear hcPw8 hfPw8
  have hzw9 := hb.size
  try simp at hzw9
  clear hb
  clear l0 l1
  have l0 : w.heap.size < w9.heap.size := by omega
  have l1 : w.heap.size + 1 < w9.heap.size := by omega
  go_wp2_with fail
  go_ret
  exact ⟨rfl, Hw9.out⟩
set_option maxRecDepth 100000 in
set_option maxHeartbeats 16000000 in
theorem lback_0d (a b x : Alr) (A : Option Addr) (c : Nat) (D : Option Addr) (d : Nat) (s : ByteArray) (w : World) (ha : AIn w a A c) (hb : AIn w b D d) (hs : s.size ≤ maxLen) (hr : RdyP w) (k : Int) (hk : (k == 0) = false) (hx : parseR parseB s.data.toList = (x, k)) (h1 : okA a = true) (h2 : okA b = true) (h3 : ((txS a).toList == (txS b).toList) = false) (h4 : sameB a b = false) :
    Calls Tryz.prog 10 #[a.val A c, b.val D d, .string s] w fun e w' => e = .returned (.bool true) ∧ Below w.heap.size w w' := by
  have HA := Lib.hid ha
  have HB := Lib.hid hb
  have HR := Lib.hid hr
  have HX := Lib.hid hx
  have HS := Lib.hid hs
  have H1 := Lib.hid (printR_t h1)
  have HP := Lib.hid (parse_back h1)
  have HM := Lib.hid (txS_max h1)
  have HEV := Lib.hid ha.ev
  have HK1 : Hid (errA (okA a) 101 = 0) := errA_t h1
  obtain ⟨ta, hta⟩ : ∃ t, t = txS a := ⟨_, rfl⟩
  rw [← hta] at H1 HP HM
  have q1 : (ta.toList == ta.toList) = true := by simp
  obtain ⟨d1, hd1⟩ : ∃ d, digE a = d := ⟨_, rfl⟩
  have HD1 := Lib.hid hd1
  have q2 : (d1 == d1) = true := by simp
  have H2 := Lib.hid (printR_t h2)
  have HK2 : Hid (errA (okA b) 101 = 0) := errA_t h2
  obtain ⟨tb, htb⟩ : ∃ t, t = txS b := ⟨_, rfl⟩
  rw [← htb] at H2 h3
  rw [← hta] at h3
  obtain ⟨d2, hd2⟩ : ∃ d, digE b = d := ⟨_, rfl⟩
  have HD2 := Lib.hid hd2
  have HV := Lib.hid h4
  clear hd2 htb h4
  clear hd1 hta
  clear ha hb hr hx hs h1 h2
  go_enter Tryz.func10, Tryz.ntmps10
  go_wp2_with fail
  refine (Parse_v s _ x k HX.out HS.out (HR.out.below (by repeat (first | exact Below.refl _ _ | assumption | refine below_drewN ?_ _ | refine Below.drew ?_ | refine Below.setCell ?_ (by first | omega | (simp; done) | (simp; omega)) _ | refine Below.alloc ?_ (by first | omega | (simp; done) | (simp; omega)) _)))).mono ?_
  rintro e w1 ⟨A1, c1, rfl, ho1, hb⟩
  clear ho1
  have Hw1 : Hid (Below (w.heap.size) (w) w1) := (show Below (w.heap.size) (w) _ from (by repeat (first | exact Below.refl _ _ | assumption | refine below_drewN ?_ _ | refine Below.drew ?_ | refine Below.setCell ?_ (by first | omega | (simp; done) | (simp; omega)) _ | refine Below.alloc ?_ (by first | omega | (simp; done) | (simp; omega)) _))).trans (hb.mono (by first | omega | (simp; done) | (simp; omega)))
  have Pw1 : Hid (Below (w.heap.size + 1 + 1) ((w.alloc (.cells #[.string a.ev, .int .i64 a.ver, .int .i64 a.tm, .int .i64 a.n, .int .i64 a.of, .int .i64 a.grid, .slice A a.cells.length c, .bool a.wd, .int .i64 a.before] 48)).alloc (.cells #[.string b.ev, .int .i64 b.ver, .int .i64 b.tm, .int .i64 b.n, .int .i64 b.of, .int .i64 b.grid, .slice D b.cells.length d, .bool b.wd, .int .i64 b.before] 48)) w1) := (show Below (w.heap.size + 1 + 1) ((w.alloc (.cells #[.string a.ev, .int .i64 a.ver, .int .i64 a.tm, .int .i64 a.n, .int .i64 a.of, .int .i64 a.grid, .slice A a.cells.length c, .bool a.wd, .int .i64 a.before] 48)).alloc (.cells #[.string b.ev, .int .i64 b.ver, .int .i64 b.tm, .int .i64 b.n, .int .i64 b.of, .int .i64 b.grid, .slice D b.cells.length d, .bool b.wd, .int .i64 b.before] 48)) _ from (by repeat (first | exact Below.refl _ _ | assumption | refine below_drewN ?_ _ | refine Below.drew ?_ | refine Below.setCell ?_ (by first | omega | (simp; done) | (simp; omega)) _ | refine Below.alloc ?_ (by first | omega | (simp; done) | (simp; omega)) _))).trans (hb.mono (by first | omega | (simp; done) | (simp; omega)))
  obtain ⟨hcPw1, hfPw1⟩ := bcell Pw1.out
  have hzw1 := hb.size
  try simp at hzw1
  clear hb
  have l0 : w.heap.size < w1.heap.size := by omega
  have l1 : w.heap.size + 1 < w1.heap.size := by omega
  go_wp2_with fail
  refine (Print_v a A c _ ta 0 H1.out (HA.out.below (by repeat (first | exact Below.refl _ _ | exact (Hw1).out | refine below_drewN ?_ _ | refine Below.drew ?_ | refine Below.setCell ?_ (by first | omega | (simp; done) | (simp; omega)) _ | refine Below.alloc ?_ (by first | omega | (simp; done) | (simp; omega)) _))) (HR.out.below (by repeat (first | exact Below.refl _ _ | exact (Hw1).out | refine below_drewN ?_ _ | refine Below.drew ?_ | refine Below.setCell ?_ (by first | omega | (simp; done) | (simp; omega)) _ | refine Below.alloc ?_ (by first | omega | (simp; done) | (simp; omega)) _))).rdy).mono ?_
  rintro e w2 ⟨rfl, hb⟩
  have Hw2 : Hid (Below (w.heap.size) (w) w2) := (show Below (w.heap.size) (w) _ from (by repeat (first | exact Below.refl _ _ | exact (Hw1).out | refine below_drewN ?_ _ | refine Below.drew ?_ | refine Below.setCell ?_ (by first | omega | (simp; done) | (simp; omega)) _ | refine Below.alloc ?_ (by first | omega | (simp; done) | (simp; omega)) _))).trans (hb.mono (by first | omega | (simp; done) | (simp; omega)))
  have Pw2 : Hid (Below (w.heap.size + 1 + 1) ((w.alloc (.cells #[.string a.ev, .int .i64 a.ver, .int .i64 a.tm, .int .i64 a.n, .int .i64 a.of, .int .i64 a.grid, .slice A a.cells.length c, .bool a.wd, .int .i64 a.before] 48)).alloc (.cells #[.string b.ev, .int .i64 b.ver, .int .i64 b.tm, .int .i64 b.n, .int .i64 b.of, .int .i64 b.grid, .slice D b.cells.length d, .bool b.wd, .int .i64 b.before] 48)) w2) := (show Below (w.heap.size + 1 + 1) ((w.alloc (.cells #[.string a.ev, .int .i64 a.ver, .int .i64 a.tm, .int .i64 a.n, .int .i64 a.of, .int .i64 a.grid, .slice A a.cells.length c, .bool a.wd, .int .i64 a.before] 48)).alloc (.cells #[.string b.ev, .int .i64 b.ver, .int .i64 b.tm, .int .i64 b.n, .int .i64 b.of, .int .i64 b.grid, .slice D b.cells.length d, .bool b.wd, .int .i64 b.before] 48)) _ from (by repeat (first | exact Below.refl _ _ | exact (Pw1).out | refine below_drewN ?_ _ | refine Below.drew ?_ | refine Below.setCell ?_ (by first | omega | (simp; done) | (simp; omega)) _ | refine Below.alloc ?_ (by first | omega | (simp; done) | (simp; omega)) _))).trans (hb.mono (by first | omega | (simp; done) | (simp; omega)))
  obtain ⟨hcPw2, hfPw2⟩ := bcell Pw2.out
  clear hcPw1 hfPw1
  have hzw2 := hb.size
  try simp at hzw2
  clear hb
  clear l0 l1
  have l0 : w.heap.size < w2.heap.size := by omega
  have l1 : w.heap.size + 1 < w2.heap.size := by omega
  go_wp2_with fail
  refine (Print_v b D d _ tb 0 H2.out (HB.out.below (by repeat (first | exact Below.refl _ _ | exact (Hw2).out | refine below_drewN ?_ _ | refine Below.drew ?_ | refine Below.setCell ?_ (by first | omega | (simp; done) | (simp; omega)) _ | refine Below.alloc ?_ (by first | omega | (simp; done) | (simp; omega)) _))) (HR.out.below (by repeat (first | exact Below.refl _ _ | exact (Hw2).out | refine below_drewN ?_ _ | refine Below.drew ?_ | refine Below.setCell ?_ (by first | omega | (simp; done) | (simp; omega)) _ | refine Below.alloc ?_ (by first | omega | (simp; done) | (simp; omega)) _))).rdy).mono ?_
  rintro e w3 ⟨rfl, hb⟩
  have Hw3 : Hid (Below (w.heap.size) (w) w3) := (show Below (w.heap.size) (w) _ from (by repeat (first | exact Below.refl _ _ | exact (Hw2).out | refine below_drewN ?_ _ | refine Below.drew ?_ | refine Below.setCell ?_ (by first | omega | (simp; done) | (simp; omega)) _ | refine Below.alloc ?_ (by first | omega | (simp; done) | (simp; omega)) _))).trans (hb.mono (by first | omega | (simp; done) | (simp; omega)))
  have Pw3 : Hid (Below (w.heap.size + 1 + 1) ((w.alloc (.cells #[.string a.ev, .int .i64 a.ver, .int .i64 a.tm, .int .i64 a.n, .int .i64 a.of, .int .i64 a.grid, .slice A a.cells.length c, .bool a.wd, .int .i64 a.before] 48)).alloc (.cells #[.string b.ev, .int .i64 b.ver, .int .i64 b.tm, .int .i64 b.n, .int .i64 b.of, .int .i64 b.grid, .slice D b.cells.length d, .bool b.wd, .int .i64 b.before] 48)) w3) := (show Below (w.heap.size + 1 + 1) ((w.alloc (.cells #[.string a.ev, .int .i64 a.ver, .int .i64 a.tm, .int .i64 a.n, .int .i64 a.of, .int .i64 a.grid, .slice A a.cells.length c, .bool a.wd, .int .i64 a.before] 48)).alloc (.cells #[.string b.ev, .int .i64 b.ver, .int .i64 b.tm, .int .i64 b.n, .int .i64 b.of, .int .i64 b.grid, .slice D b.cells.length d, .bool b.wd, .int .i64 b.before] 48)) _ from (by repeat (first | exact Below.refl _ _ | exact (Pw2).out | refine below_drewN ?_ _ | refine Below.drew ?_ | refine Below.setCell ?_ (by first | omega | (simp; done) | (simp; omega)) _ | refine Below.alloc ?_ (by first | omega | (simp; done) | (simp; omega)) _))).trans (hb.mono (by first | omega | (simp; done) | (simp; omega)))
  obtain ⟨hcPw3, hfPw3⟩ := bcell Pw3.out
  clear hcPw2 hfPw2
  have hzw3 := hb.size
  try simp at hzw3
  clear hb
  clear l0 l1
  have l0 : w.heap.size < w3.heap.size := by omega
  have l1 : w.heap.size + 1 < w3.heap.size := by omega
  go_wp2_with fail
  refine (Parse_v ta _ a 0 HP.out HM.out (HR.out.below (by repeat (first | exact Below.refl _ _ | exact (Hw3).out | refine below_drewN ?_ _ | refine Below.drew ?_ | refine Below.setCell ?_ (by first | omega | (simp; done) | (simp; omega)) _ | refine Below.alloc ?_ (by first | omega | (simp; done) | (simp; omega)) _)))).mono ?_
  rintro e w4 ⟨A6, c6, rfl, ho6, hb⟩
  have Hw4 : Hid (Below (w.heap.size) (w) w4) := (show Below (w.heap.size) (w) _ from (by repeat (first | exact Below.refl _ _ | exact (Hw3).out | refine below_drewN ?_ _ | refine Below.drew ?_ | refine Below.setCell ?_ (by first | omega | (simp; done) | (simp; omega)) _ | refine Below.alloc ?_ (by first | omega | (simp; done) | (simp; omega)) _))).trans (hb.mono (by first | omega | (simp; done) | (simp; omega)))
  have Pw4 : Hid (Below (w.heap.size + 1 + 1) ((w.alloc (.cells #[.string a.ev, .int .i64 a.ver, .int .i64 a.tm, .int .i64 a.n, .int .i64 a.of, .int .i64 a.grid, .slice A a.cells.length c, .bool a.wd, .int .i64 a.before] 48)).alloc (.cells #[.string b.ev, .int .i64 b.ver, .int .i64 b.tm, .int .i64 b.n, .int .i64 b.of, .int .i64 b.grid, .slice D b.cells.length d, .bool b.wd, .int .i64 b.before] 48)) w4) := (show Below (w.heap.size + 1 + 1) ((w.alloc (.cells #[.string a.ev, .int .i64 a.ver, .int .i64 a.tm, .int .i64 a.n, .int .i64 a.of, .int .i64 a.grid, .slice A a.cells.length c, .bool a.wd, .int .i64 a.before] 48)).alloc (.cells #[.string b.ev, .int .i64 b.ver, .int .i64 b.tm, .int .i64 b.n, .int .i64 b.of, .int .i64 b.grid, .slice D b.cells.length d, .bool b.wd, .int .i64 b.before] 48)) _ from (by repeat (first | exact Below.refl _ _ | exact (Pw3).out | refine below_drewN ?_ _ | refine Below.drew ?_ | refine Below.setCell ?_ (by first | omega | (simp; done) | (simp; omega)) _ | refine Below.alloc ?_ (by first | omega | (simp; done) | (simp; omega)) _))).trans (hb.mono (by first | omega | (simp; done) | (simp; omega)))
  obtain ⟨hcPw4, hfPw4⟩ := bcell Pw4.out
  clear hcPw3 hfPw3
  have hzw4 := hb.size
  try simp at hzw4
  clear hb
  clear l0 l1
  have l0 : w.heap.size < w4.heap.size := by omega
  have l1 : w.heap.size + 1 < w4.heap.size := by omega
  have HX6 : Hid (AIn w4 a A6 c6) := own_in HEV.out ho6
  clear ho6
  go_wp2_with fail
  refine (Digest_v a A c _ d1 0 HD1.out HK1.out (HA.out.below (by repeat (first | exact Below.refl _ _ | exact (Hw4).out | refine below_drewN ?_ _ | refine Below.drew ?_ | refine Below.setCell ?_ (by first | omega | (simp; done) | (simp; omega)) _ | refine Below.alloc ?_ (by first | omega | (simp; done) | (simp; omega)) _))) (HR.out.below (by repeat (first | exact Below.refl _ _ | exact (Hw4).out | refine below_drewN ?_ _ | refine Below.drew ?_ | refine Below.setCell ?_ (by first | omega | (simp; done) | (simp; omega)) _ | refine Below.alloc ?_ (by first | omega | (simp; done) | (simp; omega)) _))).rdy).mono ?_
  rintro e w5 ⟨rfl, hb⟩
  have Hw5 : Hid (Below (w.heap.size) (w) w5) := (show Below (w.heap.size) (w) _ from (by repeat (first | exact Below.refl _ _ | exact (Hw4).out | refine below_drewN ?_ _ | refine Below.drew ?_ | refine Below.setCell ?_ (by first | omega | (simp; done) | (simp; omega)) _ | refine Below.alloc ?_ (by first | omega | (simp; done) | (simp; omega)) _))).trans (hb.mono (by first | omega | (simp; done) | (simp; omega)))
  have Pw5 : Hid (Below (w.heap.size + 1 + 1) ((w.alloc (.cells #[.string a.ev, .int .i64 a.ver, .int .i64 a.tm, .int .i64 a.n, .int .i64 a.of, .int .i64 a.grid, .slice A a.cells.length c, .bool a.wd, .int .i64 a.before] 48)).alloc (.cells #[.string b.ev, .int .i64 b.ver, .int .i64 b.tm, .int .i64 b.n, .int .i64 b.of, .int .i64 b.grid, .slice D b.cells.length d, .bool b.wd, .int .i64 b.before] 48)) w5) := (show Below (w.heap.size + 1 + 1) ((w.alloc (.cells #[.string a.ev, .int .i64 a.ver, .int .i64 a.tm, .int .i64 a.n, .int .i64 a.of, .int .i64 a.grid, .slice A a.cells.length c, .bool a.wd, .int .i64 a.before] 48)).alloc (.cells #[.string b.ev, .int .i64 b.ver, .int .i64 b.tm, .int .i64 b.n, .int .i64 b.of, .int .i64 b.grid, .slice D b.cells.length d, .bool b.wd, .int .i64 b.before] 48)) _ from (by repeat (first | exact Below.refl _ _ | exact (Pw4).out | refine below_drewN ?_ _ | refine Below.drew ?_ | refine Below.setCell ?_ (by first | omega | (simp; done) | (simp; omega)) _ | refine Below.alloc ?_ (by first | omega | (simp; done) | (simp; omega)) _))).trans (hb.mono (by first | omega | (simp; done) | (simp; omega)))
  obtain ⟨hcPw5, hfPw5⟩ := bcell Pw5.out
  clear hcPw4 hfPw4
  have Rw5 : Hid (Below (w4.heap.size) (w4) w5) := (show Below (w4.heap.size) (w4) _ from (by repeat (first | exact Below.refl _ _ | assumption | refine below_drewN ?_ _ | refine Below.drew ?_ | refine Below.setCell ?_ (by first | omega | (simp; done) | (simp; omega)) _ | refine Below.alloc ?_ (by first | omega | (simp; done) | (simp; omega)) _))).trans (hb.mono (by first | omega | (simp; done) | (simp; omega)))
  have Yw5 : Hid (Below (w4.heap.size + 1) (w4.alloc (.cells #[.string a.ev, .int .i64 a.ver, .int .i64 a.tm, .int .i64 a.n, .int .i64 a.of, .int .i64 a.grid, .slice A6 a.cells.length c6, .bool a.wd, .int .i64 a.before] 48)) w5) := (show Below (w4.heap.size + 1) (w4.alloc (.cells #[.string a.ev, .int .i64 a.ver, .int .i64 a.tm, .int .i64 a.n, .int .i64 a.of, .int .i64 a.grid, .slice A6 a.cells.length c6, .bool a.wd, .int .i64 a.before] 48)) _ from (by repeat (first | exact Below.refl _ _ | assumption | refine below_drewN ?_ _ | refine Below.drew ?_ | refine Below.setCell ?_ (by first | omega | (simp; done) | (simp; omega)) _ | refine Below.alloc ?_ (by first | omega | (simp; done) | (simp; omega)) _))).trans (hb.mono (by first | omega | (simp; done) | (simp; omega)))
  obtain ⟨hcYw5, hfYw5⟩ := bcell Yw5.out
  have hzw5 := hb.size
  try simp at hzw5
  clear hb
  clear l0 l1
  have l0 : w.heap.size < w5.heap.size := by omega
  have l1 : w.heap.size + 1 < w5.heap.size := by omega
  have l2 : w4.heap.size < w5.heap.size := by omega
  go_wp2_with fail
  refine (Digest_v b D d _ d2 0 HD2.out HK2.out (HB.out.below (by repeat (first | exact Below.refl _ _ | exact (Hw5).out | refine below_drewN ?_ _ | refine Below.drew ?_ | refine Below.setCell ?_ (by first | omega | (simp; done) | (simp; omega)) _ | refine Below.alloc ?_ (by first | omega | (simp; done) | (simp; omega)) _))) (HR.out.below (by repeat (first | exact Below.refl _ _ | exact (Hw5).out | refine below_drewN ?_ _ | refine Below.drew ?_ | refine Below.setCell ?_ (by first | omega | (simp; done) | (simp; omega)) _ | refine Below.alloc ?_ (by first | omega | (simp; done) | (simp; omega)) _))).rdy).mono ?_
  rintro e w6 ⟨rfl, hb⟩
  have Hw6 : Hid (Below (w.heap.size) (w) w6) := (show Below (w.heap.size) (w) _ from (by repeat (first | exact Below.refl _ _ | exact (Hw5).out | refine below_drewN ?_ _ | refine Below.drew ?_ | refine Below.setCell ?_ (by first | omega | (simp; done) | (simp; omega)) _ | refine Below.alloc ?_ (by first | omega | (simp; done) | (simp; omega)) _))).trans (hb.mono (by first | omega | (simp; done) | (simp; omega)))
  have Pw6 : Hid (Below (w.heap.size + 1 + 1) ((w.alloc (.cells #[.string a.ev, .int .i64 a.ver, .int .i64 a.tm, .int .i64 a.n, .int .i64 a.of, .int .i64 a.grid, .slice A a.cells.length c, .bool a.wd, .int .i64 a.before] 48)).alloc (.cells #[.string b.ev, .int .i64 b.ver, .int .i64 b.tm, .int .i64 b.n, .int .i64 b.of, .int .i64 b.grid, .slice D b.cells.length d, .bool b.wd, .int .i64 b.before] 48)) w6) := (show Below (w.heap.size + 1 + 1) ((w.alloc (.cells #[.string a.ev, .int .i64 a.ver, .int .i64 a.tm, .int .i64 a.n, .int .i64 a.of, .int .i64 a.grid, .slice A a.cells.length c, .bool a.wd, .int .i64 a.before] 48)).alloc (.cells #[.string b.ev, .int .i64 b.ver, .int .i64 b.tm, .int .i64 b.n, .int .i64 b.of, .int .i64 b.grid, .slice D b.cells.length d, .bool b.wd, .int .i64 b.before] 48)) _ from (by repeat (first | exact Below.refl _ _ | exact (Pw5).out | refine below_drewN ?_ _ | refine Below.drew ?_ | refine Below.setCell ?_ (by first | omega | (simp; done) | (simp; omega)) _ | refine Below.alloc ?_ (by first | omega | (simp; done) | (simp; omega)) _))).trans (hb.mono (by first | omega | (simp; done) | (simp; omega)))
  obtain ⟨hcPw6, hfPw6⟩ := bcell Pw6.out
  clear hcPw5 hfPw5
  have Rw6 : Hid (Below (w4.heap.size) (w4) w6) := (show Below (w4.heap.size) (w4) _ from (by repeat (first | exact Below.refl _ _ | exact (Rw5).out | refine below_drewN ?_ _ | refine Below.drew ?_ | refine Below.setCell ?_ (by first | omega | (simp; done) | (simp; omega)) _ | refine Below.alloc ?_ (by first | omega | (simp; done) | (simp; omega)) _))).trans (hb.mono (by first | omega | (simp; done) | (simp; omega)))
  have Yw6 : Hid (Below (w4.heap.size + 1) (w4.alloc (.cells #[.string a.ev, .int .i64 a.ver, .int .i64 a.tm, .int .i64 a.n, .int .i64 a.of, .int .i64 a.grid, .slice A6 a.cells.length c6, .bool a.wd, .int .i64 a.before] 48)) w6) := (show Below (w4.heap.size + 1) (w4.alloc (.cells #[.string a.ev, .int .i64 a.ver, .int .i64 a.tm, .int .i64 a.n, .int .i64 a.of, .int .i64 a.grid, .slice A6 a.cells.length c6, .bool a.wd, .int .i64 a.before] 48)) _ from (by repeat (first | exact Below.refl _ _ | exact (Yw5).out | refine below_drewN ?_ _ | refine Below.drew ?_ | refine Below.setCell ?_ (by first | omega | (simp; done) | (simp; omega)) _ | refine Below.alloc ?_ (by first | omega | (simp; done) | (simp; omega)) _))).trans (hb.mono (by first | omega | (simp; done) | (simp; omega)))
  obtain ⟨hcYw6, hfYw6⟩ := bcell Yw6.out
  clear hcYw5 hfYw5
  have hzw6 := hb.size
  try simp at hzw6
  clear hb
  clear l0 l1 l2
  have l0 : w.heap.size < w6.heap.size := by omega
  have l1 : w.heap.size + 1 < w6.heap.size := by omega
  have l2 : w4.heap.size < w6.heap.size := by omega
  go_wp2_with fail
  refine (pSame_ a a A c A6 c6 _ (HA.out.below (by repeat (first | exact Below.refl _ _ | exact (Hw6).out | refine below_drewN ?_ _ | refine Below.drew ?_ | refine Below.setCell ?_ (by first | omega | (simp; done) | (simp; omega)) _ | refine Below.alloc ?_ (by first | omega | (simp; done) | (simp; omega)) _))) (HX6.out.below (by repeat (first | exact Below.refl _ _ | exact (Rw6).out | refine below_drewN ?_ _ | refine Below.drew ?_ | refine Below.setCell ?_ (by first | omega | (simp; done) | (simp; omega)) _ | refine Below.alloc ?_ (by first | omega | (simp; done) | (simp; omega)) _))) true (sameB_refl a)).mono ?_
  rintro e w7 ⟨rfl, hb⟩
  have Hw7 : Hid (Below (w.heap.size) (w) w7) := (show Below (w.heap.size) (w) _ from (by repeat (first | exact Below.refl _ _ | exact (Hw6).out | refine below_drewN ?_ _ | refine Below.drew ?_ | refine Below.setCell ?_ (by first | omega | (simp; done) | (simp; omega)) _ | refine Below.alloc ?_ (by first | omega | (simp; done) | (simp; omega)) _))).trans (hb.mono (by first | omega | (simp; done) | (simp; omega)))
  have Pw7 : Hid (Below (w.heap.size + 1 + 1) ((w.alloc (.cells #[.string a.ev, .int .i64 a.ver, .int .i64 a.tm, .int .i64 a.n, .int .i64 a.of, .int .i64 a.grid, .slice A a.cells.length c, .bool a.wd, .int .i64 a.before] 48)).alloc (.cells #[.string b.ev, .int .i64 b.ver, .int .i64 b.tm, .int .i64 b.n, .int .i64 b.of, .int .i64 b.grid, .slice D b.cells.length d, .bool b.wd, .int .i64 b.before] 48)) w7) := (show Below (w.heap.size + 1 + 1) ((w.alloc (.cells #[.string a.ev, .int .i64 a.ver, .int .i64 a.tm, .int .i64 a.n, .int .i64 a.of, .int .i64 a.grid, .slice A a.cells.length c, .bool a.wd, .int .i64 a.before] 48)).alloc (.cells #[.string b.ev, .int .i64 b.ver, .int .i64 b.tm, .int .i64 b.n, .int .i64 b.of, .int .i64 b.grid, .slice D b.cells.length d, .bool b.wd, .int .i64 b.before] 48)) _ from (by repeat (first | exact Below.refl _ _ | exact (Pw6).out | refine below_drewN ?_ _ | refine Below.drew ?_ | refine Below.setCell ?_ (by first | omega | (simp; done) | (simp; omega)) _ | refine Below.alloc ?_ (by first | omega | (simp; done) | (simp; omega)) _))).trans (hb.mono (by first | omega | (simp; done) | (simp; omega)))
  obtain ⟨hcPw7, hfPw7⟩ := bcell Pw7.out
  clear hcPw6 hfPw6
  have Rw7 : Hid (Below (w4.heap.size) (w4) w7) := (show Below (w4.heap.size) (w4) _ from (by repeat (first | exact Below.refl _ _ | exact (Rw6).out | refine below_drewN ?_ _ | refine Below.drew ?_ | refine Below.setCell ?_ (by first | omega | (simp; done) | (simp; omega)) _ | refine Below.alloc ?_ (by first | omega | (simp; done) | (simp; omega)) _))).trans (hb.mono (by first | omega | (simp; done) | (simp; omega)))
  have Yw7 : Hid (Below (w4.heap.size + 1) (w4.alloc (.cells #[.string a.ev, .int .i64 a.ver, .int .i64 a.tm, .int .i64 a.n, .int .i64 a.of, .int .i64 a.grid, .slice A6 a.cells.length c6, .bool a.wd, .int .i64 a.before] 48)) w7) := (show Below (w4.heap.size + 1) (w4.alloc (.cells #[.string a.ev, .int .i64 a.ver, .int .i64 a.tm, .int .i64 a.n, .int .i64 a.of, .int .i64 a.grid, .slice A6 a.cells.length c6, .bool a.wd, .int .i64 a.before] 48)) _ from (by repeat (first | exact Below.refl _ _ | exact (Yw6).out | refine below_drewN ?_ _ | refine Below.drew ?_ | refine Below.setCell ?_ (by first | omega | (simp; done) | (simp; omega)) _ | refine Below.alloc ?_ (by first | omega | (simp; done) | (simp; omega)) _))).trans (hb.mono (by first | omega | (simp; done) | (simp; omega)))
  obtain ⟨hcYw7, hfYw7⟩ := bcell Yw7.out
  clear hcYw6 hfYw6
  have hzw7 := hb.size
  try simp at hzw7
  clear hb
  clear l0 l1 l2
  have l0 : w.heap.size < w7.heap.size := by omega
  have l1 : w.heap.size + 1 < w7.heap.size := by omega
  have l2 : w4.heap.size < w7.heap.size := by omega
  clear hcYw7 hfYw7
  go_wp2_with fail
  refine (pSame_ a b A c D d _ (HA.out.below (by repeat (first | exact Below.refl _ _ | exact (Hw7).out | refine below_drewN ?_ _ | refine Below.drew ?_ | refine Below.setCell ?_ (by first | omega | (simp; done) | (simp; omega)) _ | refine Below.alloc ?_ (by first | omega | (simp; done) | (simp; omega)) _))) (HB.out.below (by repeat (first | exact Below.refl _ _ | exact (Hw7).out | refine below_drewN ?_ _ | refine Below.drew ?_ | refine Below.setCell ?_ (by first | omega | (simp; done) | (simp; omega)) _ | refine Below.alloc ?_ (by first | omega | (simp; done) | (simp; omega)) _))) false HV.out).mono ?_
  rintro e w8 ⟨rfl, hb⟩
  have Hw8 : Hid (Below (w.heap.size) (w) w8) := (show Below (w.heap.size) (w) _ from (by repeat (first | exact Below.refl _ _ | exact (Hw7).out | refine below_drewN ?_ _ | refine Below.drew ?_ | refine Below.setCell ?_ (by first | omega | (simp; done) | (simp; omega)) _ | refine Below.alloc ?_ (by first | omega | (simp; done) | (simp; omega)) _))).trans (hb.mono (by first | omega | (simp; done) | (simp; omega)))
  have Pw8 : Hid (Below (w.heap.size + 1 + 1) ((w.alloc (.cells #[.string a.ev, .int .i64 a.ver, .int .i64 a.tm, .int .i64 a.n, .int .i64 a.of, .int .i64 a.grid, .slice A a.cells.length c, .bool a.wd, .int .i64 a.before] 48)).alloc (.cells #[.string b.ev, .int .i64 b.ver, .int .i64 b.tm, .int .i64 b.n, .int .i64 b.of, .int .i64 b.grid, .slice D b.cells.length d, .bool b.wd, .int .i64 b.before] 48)) w8) := (show Below (w.heap.size + 1 + 1) ((w.alloc (.cells #[.string a.ev, .int .i64 a.ver, .int .i64 a.tm, .int .i64 a.n, .int .i64 a.of, .int .i64 a.grid, .slice A a.cells.length c, .bool a.wd, .int .i64 a.before] 48)).alloc (.cells #[.string b.ev, .int .i64 b.ver, .int .i64 b.tm, .int .i64 b.n, .int .i64 b.of, .int .i64 b.grid, .slice D b.cells.length d, .bool b.wd, .int .i64 b.before] 48)) _ from (by repeat (first | exact Below.refl _ _ | exact (Pw7).out | refine below_drewN ?_ _ | refine Below.drew ?_ | refine Below.setCell ?_ (by first | omega | (simp; done) | (simp; omega)) _ | refine Below.alloc ?_ (by first | omega | (simp; done) | (simp; omega)) _))).trans (hb.mono (by first | omega | (simp; done) | (simp; omega)))
  obtain ⟨hcPw8, hfPw8⟩ := bcell Pw8.out
  clear hcPw7 hfPw7
  have hzw8 := hb.size
  try simp at hzw8
  clear hb
  clear l0 l1 l2
  have l0 : w.heap.size < w8.heap.size := by omega
  have l1 : w.heap.size + 1 < w8.heap.size := by omega
  go_wp2_with fail
  refine (works_ _ (HR.out.below (by repeat (first | exact Below.refl _ _ | exact (Hw8).out | refine below_drewN ?_ _ | refine Below.drew ?_ | refine Below.setCell ?_ (by first | omega | (simp; done) | (simp; omega)) _ | refine Below.alloc ?_ (by first | omega | (simp; done) | (simp; omega)) _))).rdy).mono ?_
  rintro e w9 ⟨rfl, hb⟩
  have Hw9 : Hid (Below (w.heap.size) (w) w9) := (show Below (w.heap.size) (w) _ from (by repeat (first | exact Below.refl _ _ | exact (Hw8).out | refine below_drewN ?_ _ | refine Below.drew ?_ | refine Below.setCell ?_ (by first | omega | (simp; done) | (simp; omega)) _ | refine Below.alloc ?_ (by first | omega | (simp; done) | (simp; omega)) _))).trans (hb.mono (by first | omega | (simp; done) | (simp; omega)))
  have Pw9 : Hid (Below (w.heap.size + 1 + 1) ((w.alloc (.cells #[.string a.ev, .int .i64 a.ver, .int .i64 a.tm, .int .i64 a.n, .int .i64 a.of, .int .i64 a.grid, .slice A a.cells.length c, .bool a.wd, .int .i64 a.before] 48)).alloc (.cells #[.string b.ev, .int .i64 b.ver, .int .i64 b.tm, .int .i64 b.n, .int .i64 b.of, .int .i64 b.grid, .slice D b.cells.length d, .bool b.wd, .int .i64 b.before] 48)) w9) := (show Below (w.heap.size + 1 + 1) ((w.alloc (.cells #[.string a.ev, .int .i64 a.ver, .int .i64 a.tm, .int .i64 a.n, .int .i64 a.of, .int .i64 a.grid, .slice A a.cells.length c, .bool a.wd, .int .i64 a.before] 48)).alloc (.cells #[.string b.ev, .int .i64 b.ver, .int .i64 b.tm, .int .i64 b.n, .int .i64 b.of, .int .i64 b.grid, .slice D b.cells.length d, .bool b.wd, .int .i64 b.before] 48)) _ from (by repeat (first | exact Below.refl _ _ | exact (Pw8).out | refine below_drewN ?_ _ | refine Below.drew ?_ | refine Below.setCell ?_ (by first | omega | (simp; done) | (simp; omega)) _ | refine Below.alloc ?_ (by first | omega | (simp; done) | (simp; omega)) _))).trans (hb.mono (by first | omega | (simp; done) | (simp; omega)))
  obtain ⟨hcPw9, hfPw9⟩ := bcell Pw9.out
  clear hcPw8 hfPw8
  have hzw9 := hb.size
  try simp at hzw9
  clear hb
  clear l0 l1
  have l0 : w.heap.size < w9.heap.size := by omega
  have l1 : w.heap.size + 1 < w9.heap.size := by omega
  go_wp2_with fail
  go_ret
  exact ⟨rfl, Hw9.out⟩
set_option maxRecDepth 100000 in
set_option maxHeartbeats 16000000 in
theorem lback_1n (a b x : Alr) (A : Option Addr) (c : Nat) (D : Option Addr) (d : Nat) (s : ByteArray) (w : World) (ha : AIn w a A c) (hb : AIn w b D d) (hs : s.size ≤ maxLen) (hr : RdyP w) (hx : parseR parseB s.data.toList = (x, 0)) (h1 : okA a = false) (t : ByteArray) (kb : Int) (h2 : printR b = (t, kb)) :
    Calls Tryz.prog 10 #[a.val A c, b.val D d, .string s] w fun e w' => e = .returned (.bool true) ∧ Below w.heap.size w w' := by
  have HA := Lib.hid ha
  have HB := Lib.hid hb
  have HR := Lib.hid hr
  have HX := Lib.hid hx
  have HS := Lib.hid hs
  have HE := Lib.hid (parse_ev hx)
  have HO := Lib.hid (parse_print hx)
  have q0 : (s.toList == s.toList) = true := by simp
  have H1 := Lib.hid (printR_f h1)
  have H2 := Lib.hid h2
  clear ha hb hr hx hs h1 h2
  go_enter Tryz.func10, Tryz.ntmps10
  go_wp2_with fail
  refine (Parse_v s _ x 0 HX.out HS.out (HR.out.below (by repeat (first | exact Below.refl _ _ | assumption | refine below_drewN ?_ _ | refine Below.drew ?_ | refine Below.setCell ?_ (by first | omega | (simp; done) | (simp; omega)) _ | refine Below.alloc ?_ (by first | omega | (simp; done) | (simp; omega)) _)))).mono ?_
  rintro e w1 ⟨A1, c1, rfl, ho1, hb⟩
  have HX1 : Hid (AIn w1 x A1 c1) := own_in HE.out ho1
  clear ho1
  have Hw1 : Hid (Below (w.heap.size) (w) w1) := (show Below (w.heap.size) (w) _ from (by repeat (first | exact Below.refl _ _ | assumption | refine below_drewN ?_ _ | refine Below.drew ?_ | refine Below.setCell ?_ (by first | omega | (simp; done) | (simp; omega)) _ | refine Below.alloc ?_ (by first | omega | (simp; done) | (simp; omega)) _))).trans (hb.mono (by first | omega | (simp; done) | (simp; omega)))
  have Pw1 : Hid (Below (w.heap.size + 1 + 1) ((w.alloc (.cells #[.string a.ev, .int .i64 a.ver, .int .i64 a.tm, .int .i64 a.n, .int .i64 a.of, .int .i64 a.grid, .slice A a.cells.length c, .bool a.wd, .int .i64 a.before] 48)).alloc (.cells #[.string b.ev, .int .i64 b.ver, .int .i64 b.tm, .int .i64 b.n, .int .i64 b.of, .int .i64 b.grid, .slice D b.cells.length d, .bool b.wd, .int .i64 b.before] 48)) w1) := (show Below (w.heap.size + 1 + 1) ((w.alloc (.cells #[.string a.ev, .int .i64 a.ver, .int .i64 a.tm, .int .i64 a.n, .int .i64 a.of, .int .i64 a.grid, .slice A a.cells.length c, .bool a.wd, .int .i64 a.before] 48)).alloc (.cells #[.string b.ev, .int .i64 b.ver, .int .i64 b.tm, .int .i64 b.n, .int .i64 b.of, .int .i64 b.grid, .slice D b.cells.length d, .bool b.wd, .int .i64 b.before] 48)) _ from (by repeat (first | exact Below.refl _ _ | assumption | refine below_drewN ?_ _ | refine Below.drew ?_ | refine Below.setCell ?_ (by first | omega | (simp; done) | (simp; omega)) _ | refine Below.alloc ?_ (by first | omega | (simp; done) | (simp; omega)) _))).trans (hb.mono (by first | omega | (simp; done) | (simp; omega)))
  obtain ⟨hcPw1, hfPw1⟩ := bcell Pw1.out
  have hzw1 := hb.size
  try simp at hzw1
  clear hb
  have l0 : w.heap.size < w1.heap.size := by omega
  have l1 : w.heap.size + 1 < w1.heap.size := by omega
  go_wp2_with fail
  refine (Print_v x A1 c1 _ s 0 HO.out.2 (HX1.out.below (by repeat (first | exact Below.refl _ _ | assumption | refine below_drewN ?_ _ | refine Below.drew ?_ | refine Below.setCell ?_ (by first | omega | (simp; done) | (simp; omega)) _ | refine Below.alloc ?_ (by first | omega | (simp; done) | (simp; omega)) _))) (HR.out.below (by repeat (first | exact Below.refl _ _ | exact (Hw1).out | refine below_drewN ?_ _ | refine Below.drew ?_ | refine Below.setCell ?_ (by first | omega | (simp; done) | (simp; omega)) _ | refine Below.alloc ?_ (by first | omega | (simp; done) | (simp; omega)) _))).rdy).mono ?_
  rintro e w2 ⟨rfl, hb⟩
  have Hw2 : Hid (Below (w.heap.size) (w) w2) := (show Below (w.heap.size) (w) _ from (by repeat (first | exact Below.refl _ _ | exact (Hw1).out | refine below_drewN ?_ _ | refine Below.drew ?_ | refine Below.setCell ?_ (by first | omega | (simp; done) | (simp; omega)) _ | refine Below.alloc ?_ (by first | omega | (simp; done) | (simp; omega)) _))).trans (hb.mono (by first | omega | (simp; done) | (simp; omega)))
  have Pw2 : Hid (Below (w.heap.size + 1 + 1) ((w.alloc (.cells #[.string a.ev, .int .i64 a.ver, .int .i64 a.tm, .int .i64 a.n, .int .i64 a.of, .int .i64 a.grid, .slice A a.cells.length c, .bool a.wd, .int .i64 a.before] 48)).alloc (.cells #[.string b.ev, .int .i64 b.ver, .int .i64 b.tm, .int .i64 b.n, .int .i64 b.of, .int .i64 b.grid, .slice D b.cells.length d, .bool b.wd, .int .i64 b.before] 48)) w2) := (show Below (w.heap.size + 1 + 1) ((w.alloc (.cells #[.string a.ev, .int .i64 a.ver, .int .i64 a.tm, .int .i64 a.n, .int .i64 a.of, .int .i64 a.grid, .slice A a.cells.length c, .bool a.wd, .int .i64 a.before] 48)).alloc (.cells #[.string b.ev, .int .i64 b.ver, .int .i64 b.tm, .int .i64 b.n, .int .i64 b.of, .int .i64 b.grid, .slice D b.cells.length d, .bool b.wd, .int .i64 b.before] 48)) _ from (by repeat (first | exact Below.refl _ _ | exact (Pw1).out | refine below_drewN ?_ _ | refine Below.drew ?_ | refine Below.setCell ?_ (by first | omega | (simp; done) | (simp; omega)) _ | refine Below.alloc ?_ (by first | omega | (simp; done) | (simp; omega)) _))).trans (hb.mono (by first | omega | (simp; done) | (simp; omega)))
  obtain ⟨hcPw2, hfPw2⟩ := bcell Pw2.out
  clear hcPw1 hfPw1
  have Qw2 : Hid (Below (w1.heap.size) (w1) w2) := (show Below (w1.heap.size) (w1) _ from (by repeat (first | exact Below.refl _ _ | assumption | refine below_drewN ?_ _ | refine Below.drew ?_ | refine Below.setCell ?_ (by first | omega | (simp; done) | (simp; omega)) _ | refine Below.alloc ?_ (by first | omega | (simp; done) | (simp; omega)) _))).trans (hb.mono (by first | omega | (simp; done) | (simp; omega)))
  have Xw2 : Hid (Below (w1.heap.size + 1) (w1.alloc (.cells #[.string x.ev, .int .i64 x.ver, .int .i64 x.tm, .int .i64 x.n, .int .i64 x.of, .int .i64 x.grid, .slice A1 x.cells.length c1, .bool x.wd, .int .i64 x.before] 48)) w2) := (show Below (w1.heap.size + 1) (w1.alloc (.cells #[.string x.ev, .int .i64 x.ver, .int .i64 x.tm, .int .i64 x.n, .int .i64 x.of, .int .i64 x.grid, .slice A1 x.cells.length c1, .bool x.wd, .int .i64 x.before] 48)) _ from (by repeat (first | exact Below.refl _ _ | assumption | refine below_drewN ?_ _ | refine Below.drew ?_ | refine Below.setCell ?_ (by first | omega | (simp; done) | (simp; omega)) _ | refine Below.alloc ?_ (by first | omega | (simp; done) | (simp; omega)) _))).trans (hb.mono (by first | omega | (simp; done) | (simp; omega)))
  obtain ⟨hcXw2, hfXw2⟩ := bcell Xw2.out
  have hzw2 := hb.size
  try simp at hzw2
  clear hb
  clear l0 l1
  have l0 : w.heap.size < w2.heap.size := by omega
  have l1 : w.heap.size + 1 < w2.heap.size := by omega
  have l2 : w1.heap.size < w2.heap.size := by omega
  go_wp2_with fail
  refine (CheckAlert_t x A1 c1 _ HO.out.1 (HX1.out.below (by repeat (first | exact Below.refl _ _ | exact (Qw2).out | refine below_drewN ?_ _ | refine Below.drew ?_ | refine Below.setCell ?_ (by first | omega | (simp; done) | (simp; omega)) _ | refine Below.alloc ?_ (by first | omega | (simp; done) | (simp; omega)) _)))).mono ?_
  rintro e w3 ⟨rfl, hb⟩
  have Hw3 : Hid (Below (w.heap.size) (w) w3) := (show Below (w.heap.size) (w) _ from (by repeat (first | exact Below.refl _ _ | exact (Hw2).out | refine below_drewN ?_ _ | refine Below.drew ?_ | refine Below.setCell ?_ (by first | omega | (simp; done) | (simp; omega)) _ | refine Below.alloc ?_ (by first | omega | (simp; done) | (simp; omega)) _))).trans (hb.mono (by first | omega | (simp; done) | (simp; omega)))
  have Pw3 : Hid (Below (w.heap.size + 1 + 1) ((w.alloc (.cells #[.string a.ev, .int .i64 a.ver, .int .i64 a.tm, .int .i64 a.n, .int .i64 a.of, .int .i64 a.grid, .slice A a.cells.length c, .bool a.wd, .int .i64 a.before] 48)).alloc (.cells #[.string b.ev, .int .i64 b.ver, .int .i64 b.tm, .int .i64 b.n, .int .i64 b.of, .int .i64 b.grid, .slice D b.cells.length d, .bool b.wd, .int .i64 b.before] 48)) w3) := (show Below (w.heap.size + 1 + 1) ((w.alloc (.cells #[.string a.ev, .int .i64 a.ver, .int .i64 a.tm, .int .i64 a.n, .int .i64 a.of, .int .i64 a.grid, .slice A a.cells.length c, .bool a.wd, .int .i64 a.before] 48)).alloc (.cells #[.string b.ev, .int .i64 b.ver, .int .i64 b.tm, .int .i64 b.n, .int .i64 b.of, .int .i64 b.grid, .slice D b.cells.length d, .bool b.wd, .int .i64 b.before] 48)) _ from (by repeat (first | exact Below.refl _ _ | exact (Pw2).out | refine below_drewN ?_ _ | refine Below.drew ?_ | refine Below.setCell ?_ (by first | omega | (simp; done) | (simp; omega)) _ | refine Below.alloc ?_ (by first | omega | (simp; done) | (simp; omega)) _))).trans (hb.mono (by first | omega | (simp; done) | (simp; omega)))
  obtain ⟨hcPw3, hfPw3⟩ := bcell Pw3.out
  clear hcPw2 hfPw2
  have Qw3 : Hid (Below (w1.heap.size) (w1) w3) := (show Below (w1.heap.size) (w1) _ from (by repeat (first | exact Below.refl _ _ | exact (Qw2).out | refine below_drewN ?_ _ | refine Below.drew ?_ | refine Below.setCell ?_ (by first | omega | (simp; done) | (simp; omega)) _ | refine Below.alloc ?_ (by first | omega | (simp; done) | (simp; omega)) _))).trans (hb.mono (by first | omega | (simp; done) | (simp; omega)))
  have Xw3 : Hid (Below (w1.heap.size + 1) (w1.alloc (.cells #[.string x.ev, .int .i64 x.ver, .int .i64 x.tm, .int .i64 x.n, .int .i64 x.of, .int .i64 x.grid, .slice A1 x.cells.length c1, .bool x.wd, .int .i64 x.before] 48)) w3) := (show Below (w1.heap.size + 1) (w1.alloc (.cells #[.string x.ev, .int .i64 x.ver, .int .i64 x.tm, .int .i64 x.n, .int .i64 x.of, .int .i64 x.grid, .slice A1 x.cells.length c1, .bool x.wd, .int .i64 x.before] 48)) _ from (by repeat (first | exact Below.refl _ _ | exact (Xw2).out | refine below_drewN ?_ _ | refine Below.drew ?_ | refine Below.setCell ?_ (by first | omega | (simp; done) | (simp; omega)) _ | refine Below.alloc ?_ (by first | omega | (simp; done) | (simp; omega)) _))).trans (hb.mono (by first | omega | (simp; done) | (simp; omega)))
  obtain ⟨hcXw3, hfXw3⟩ := bcell Xw3.out
  clear hcXw2 hfXw2
  have hzw3 := hb.size
  try simp at hzw3
  clear hb
  clear l0 l1 l2
  have l0 : w.heap.size < w3.heap.size := by omega
  have l1 : w.heap.size + 1 < w3.heap.size := by omega
  have l2 : w1.heap.size < w3.heap.size := by omega
  clear hcXw3 hfXw3
  go_wp2_with fail
  refine (Print_v a A c _ ⟨#[]⟩ 101 H1.out (HA.out.below (by repeat (first | exact Below.refl _ _ | exact (Hw3).out | refine below_drewN ?_ _ | refine Below.drew ?_ | refine Below.setCell ?_ (by first | omega | (simp; done) | (simp; omega)) _ | refine Below.alloc ?_ (by first | omega | (simp; done) | (simp; omega)) _))) (HR.out.below (by repeat (first | exact Below.refl _ _ | exact (Hw3).out | refine below_drewN ?_ _ | refine Below.drew ?_ | refine Below.setCell ?_ (by first | omega | (simp; done) | (simp; omega)) _ | refine Below.alloc ?_ (by first | omega | (simp; done) | (simp; omega)) _))).rdy).mono ?_
  rintro e w4 ⟨rfl, hb⟩
  have Hw4 : Hid (Below (w.heap.size) (w) w4) := (show Below (w.heap.size) (w) _ from (by repeat (first | exact Below.refl _ _ | exact (Hw3).out | refine below_drewN ?_ _ | refine Below.drew ?_ | refine Below.setCell ?_ (by first | omega | (simp; done) | (simp; omega)) _ | refine Below.alloc ?_ (by first | omega | (simp; done) | (simp; omega)) _))).trans (hb.mono (by first | omega | (simp; done) | (simp; omega)))
  have Pw4 : Hid (Below (w.heap.size + 1 + 1) ((w.alloc (.cells #[.string a.ev, .int .i64 a.ver, .int .i64 a.tm, .int .i64 a.n, .int .i64 a.of, .int .i64 a.grid, .slice A a.cells.length c, .bool a.wd, .int .i64 a.before] 48)).alloc (.cells #[.string b.ev, .int .i64 b.ver, .int .i64 b.tm, .int .i64 b.n, .int .i64 b.of, .int .i64 b.grid, .slice D b.cells.length d, .bool b.wd, .int .i64 b.before] 48)) w4) := (show Below (w.heap.size + 1 + 1) ((w.alloc (.cells #[.string a.ev, .int .i64 a.ver, .int .i64 a.tm, .int .i64 a.n, .int .i64 a.of, .int .i64 a.grid, .slice A a.cells.length c, .bool a.wd, .int .i64 a.before] 48)).alloc (.cells #[.string b.ev, .int .i64 b.ver, .int .i64 b.tm, .int .i64 b.n, .int .i64 b.of, .int .i64 b.grid, .slice D b.cells.length d, .bool b.wd, .int .i64 b.before] 48)) _ from (by repeat (first | exact Below.refl _ _ | exact (Pw3).out | refine below_drewN ?_ _ | refine Below.drew ?_ | refine Below.setCell ?_ (by first | omega | (simp; done) | (simp; omega)) _ | refine Below.alloc ?_ (by first | omega | (simp; done) | (simp; omega)) _))).trans (hb.mono (by first | omega | (simp; done) | (simp; omega)))
  obtain ⟨hcPw4, hfPw4⟩ := bcell Pw4.out
  clear hcPw3 hfPw3
  have hzw4 := hb.size
  try simp at hzw4
  clear hb
  clear l0 l1 l2
  have l0 : w.heap.size < w4.heap.size := by omega
  have l1 : w.heap.size + 1 < w4.heap.size := by omega
  go_wp2_with fail
  refine (Print_v b D d _ t kb H2.out (HB.out.below (by repeat (first | exact Below.refl _ _ | exact (Hw4).out | refine below_drewN ?_ _ | refine Below.drew ?_ | refine Below.setCell ?_ (by first | omega | (simp; done) | (simp; omega)) _ | refine Below.alloc ?_ (by first | omega | (simp; done) | (simp; omega)) _))) (HR.out.below (by repeat (first | exact Below.refl _ _ | exact (Hw4).out | refine below_drewN ?_ _ | refine Below.drew ?_ | refine Below.setCell ?_ (by first | omega | (simp; done) | (simp; omega)) _ | refine Below.alloc ?_ (by first | omega | (simp; done) | (simp; omega)) _))).rdy).mono ?_
  rintro e w5 ⟨rfl, hb⟩
  have Hw5 : Hid (Below (w.heap.size) (w) w5) := (show Below (w.heap.size) (w) _ from (by repeat (first | exact Below.refl _ _ | exact (Hw4).out | refine below_drewN ?_ _ | refine Below.drew ?_ | refine Below.setCell ?_ (by first | omega | (simp; done) | (simp; omega)) _ | refine Below.alloc ?_ (by first | omega | (simp; done) | (simp; omega)) _))).trans (hb.mono (by first | omega | (simp; done) | (simp; omega)))
  have Pw5 : Hid (Below (w.heap.size + 1 + 1) ((w.alloc (.cells #[.string a.ev, .int .i64 a.ver, .int .i64 a.tm, .int .i64 a.n, .int .i64 a.of, .int .i64 a.grid, .slice A a.cells.length c, .bool a.wd, .int .i64 a.before] 48)).alloc (.cells #[.string b.ev, .int .i64 b.ver, .int .i64 b.tm, .int .i64 b.n, .int .i64 b.of, .int .i64 b.grid, .slice D b.cells.length d, .bool b.wd, .int .i64 b.before] 48)) w5) := (show Below (w.heap.size + 1 + 1) ((w.alloc (.cells #[.string a.ev, .int .i64 a.ver, .int .i64 a.tm, .int .i64 a.n, .int .i64 a.of, .int .i64 a.grid, .slice A a.cells.length c, .bool a.wd, .int .i64 a.before] 48)).alloc (.cells #[.string b.ev, .int .i64 b.ver, .int .i64 b.tm, .int .i64 b.n, .int .i64 b.of, .int .i64 b.grid, .slice D b.cells.length d, .bool b.wd, .int .i64 b.before] 48)) _ from (by repeat (first | exact Below.refl _ _ | exact (Pw4).out | refine below_drewN ?_ _ | refine Below.drew ?_ | refine Below.setCell ?_ (by first | omega | (simp; done) | (simp; omega)) _ | refine Below.alloc ?_ (by first | omega | (simp; done) | (simp; omega)) _))).trans (hb.mono (by first | omega | (simp; done) | (simp; omega)))
  obtain ⟨hcPw5, hfPw5⟩ := bcell Pw5.out
  clear hcPw4 hfPw4
  have hzw5 := hb.size
  try simp at hzw5
  clear hb
  clear l0 l1
  have l0 : w.heap.size < w5.heap.size := by omega
  have l1 : w.heap.size + 1 < w5.heap.size := by omega
  go_wp2_with fail
  refine (works_ _ (HR.out.below (by repeat (first | exact Below.refl _ _ | exact (Hw5).out | refine below_drewN ?_ _ | refine Below.drew ?_ | refine Below.setCell ?_ (by first | omega | (simp; done) | (simp; omega)) _ | refine Below.alloc ?_ (by first | omega | (simp; done) | (simp; omega)) _))).rdy).mono ?_
  rintro e w6 ⟨rfl, hb⟩
  have Hw6 : Hid (Below (w.heap.size) (w) w6) := (show Below (w.heap.size) (w) _ from (by repeat (first | exact Below.refl _ _ | exact (Hw5).out | refine below_drewN ?_ _ | refine Below.drew ?_ | refine Below.setCell ?_ (by first | omega | (simp; done) | (simp; omega)) _ | refine Below.alloc ?_ (by first | omega | (simp; done) | (simp; omega)) _))).trans (hb.mono (by first | omega | (simp; done) | (simp; omega)))
  have Pw6 : Hid (Below (w.heap.size + 1 + 1) ((w.alloc (.cells #[.string a.ev, .int .i64 a.ver, .int .i64 a.tm, .int .i64 a.n, .int .i64 a.of, .int .i64 a.grid, .slice A a.cells.length c, .bool a.wd, .int .i64 a.before] 48)).alloc (.cells #[.string b.ev, .int .i64 b.ver, .int .i64 b.tm, .int .i64 b.n, .int .i64 b.of, .int .i64 b.grid, .slice D b.cells.length d, .bool b.wd, .int .i64 b.before] 48)) w6) := (show Below (w.heap.size + 1 + 1) ((w.alloc (.cells #[.string a.ev, .int .i64 a.ver, .int .i64 a.tm, .int .i64 a.n, .int .i64 a.of, .int .i64 a.grid, .slice A a.cells.length c, .bool a.wd, .int .i64 a.before] 48)).alloc (.cells #[.string b.ev, .int .i64 b.ver, .int .i64 b.tm, .int .i64 b.n, .int .i64 b.of, .int .i64 b.grid, .slice D b.cells.length d, .bool b.wd, .int .i64 b.before] 48)) _ from (by repeat (first | exact Below.refl _ _ | exact (Pw5).out | refine below_drewN ?_ _ | refine Below.drew ?_ | refine Below.setCell ?_ (by first | omega | (simp; done) | (simp; omega)) _ | refine Below.alloc ?_ (by first | omega | (simp; done) | (simp; omega)) _))).trans (hb.mono (by first | omega | (simp; done) | (simp; omega)))
  obtain ⟨hcPw6, hfPw6⟩ := bcell Pw6.out
  clear hcPw5 hfPw5
  have hzw6 := hb.size
  try simp at hzw6
  clear hb
  clear l0 l1
  have l0 : w.heap.size < w6.heap.size := by omega
  have l1 : w.heap.size + 1 < w6.heap.size := by omega
  go_wp2_with fail
  go_ret
  exact ⟨rfl, Hw6.out⟩
set_option maxRecDepth 100000 in
set_option maxHeartbeats 16000000 in
theorem lback_1t (a b x : Alr) (A : Option Addr) (c : Nat) (D : Option Addr) (d : Nat) (s : ByteArray) (w : World) (ha : AIn w a A c) (hb : AIn w b D d) (hs : s.size ≤ maxLen) (hr : RdyP w) (hx : parseR parseB s.data.toList = (x, 0)) (h1 : okA a = true) (h2 : okA b = false) :
    Calls Tryz.prog 10 #[a.val A c, b.val D d, .string s] w fun e w' => e = .returned (.bool true) ∧ Below w.heap.size w w' := by
  have HA := Lib.hid ha
  have HB := Lib.hid hb
  have HR := Lib.hid hr
  have HX := Lib.hid hx
  have HS := Lib.hid hs
  have HE := Lib.hid (parse_ev hx)
  have HO := Lib.hid (parse_print hx)
  have q0 : (s.toList == s.toList) = true := by simp
  have H1 := Lib.hid (printR_t h1)
  have HP := Lib.hid (parse_back h1)
  have HM := Lib.hid (txS_max h1)
  have HEV := Lib.hid ha.ev
  have HK1 : Hid (errA (okA a) 101 = 0) := errA_t h1
  obtain ⟨ta, hta⟩ : ∃ t, t = txS a := ⟨_, rfl⟩
  rw [← hta] at H1 HP HM
  have q1 : (ta.toList == ta.toList) = true := by simp
  obtain ⟨d1, hd1⟩ : ∃ d, digE a = d := ⟨_, rfl⟩
  have HD1 := Lib.hid hd1
  have q2 : (d1 == d1) = true := by simp
  have H2 := Lib.hid (printR_f h2)
  have HK2 : Hid (errA (okA b) 101 = 101) := errA_f h2
  obtain ⟨d2, hd2⟩ : ∃ d, digE b = d := ⟨_, rfl⟩
  have HD2 := Lib.hid hd2
  clear hd2
  clear hd1 hta
  clear ha hb hr hx hs h1 h2
  go_enter Tryz.func10, Tryz.ntmps10
  go_wp2_with fail
  refine (Parse_v s _ x 0 HX.out HS.out (HR.out.below (by repeat (first | exact Below.refl _ _ | assumption | refine below_drewN ?_ _ | refine Below.drew ?_ | refine Below.setCell ?_ (by first | omega | (simp; done) | (simp; omega)) _ | refine Below.alloc ?_ (by first | omega | (simp; done) | (simp; omega)) _)))).mono ?_
  rintro e w1 ⟨A1, c1, rfl, ho1, hb⟩
  have HX1 : Hid (AIn w1 x A1 c1) := own_in HE.out ho1
  clear ho1
  have Hw1 : Hid (Below (w.heap.size) (w) w1) := (show Below (w.heap.size) (w) _ from (by repeat (first | exact Below.refl _ _ | assumption | refine below_drewN ?_ _ | refine Below.drew ?_ | refine Below.setCell ?_ (by first | omega | (simp; done) | (simp; omega)) _ | refine Below.alloc ?_ (by first | omega | (simp; done) | (simp; omega)) _))).trans (hb.mono (by first | omega | (simp; done) | (simp; omega)))
  have Pw1 : Hid (Below (w.heap.size + 1 + 1) ((w.alloc (.cells #[.string a.ev, .int .i64 a.ver, .int .i64 a.tm, .int .i64 a.n, .int .i64 a.of, .int .i64 a.grid, .slice A a.cells.length c, .bool a.wd, .int .i64 a.before] 48)).alloc (.cells #[.string b.ev, .int .i64 b.ver, .int .i64 b.tm, .int .i64 b.n, .int .i64 b.of, .int .i64 b.grid, .slice D b.cells.length d, .bool b.wd, .int .i64 b.before] 48)) w1) := (show Below (w.heap.size + 1 + 1) ((w.alloc (.cells #[.string a.ev, .int .i64 a.ver, .int .i64 a.tm, .int .i64 a.n, .int .i64 a.of, .int .i64 a.grid, .slice A a.cells.length c, .bool a.wd, .int .i64 a.before] 48)).alloc (.cells #[.string b.ev, .int .i64 b.ver, .int .i64 b.tm, .int .i64 b.n, .int .i64 b.of, .int .i64 b.grid, .slice D b.cells.length d, .bool b.wd, .int .i64 b.before] 48)) _ from (by repeat (first | exact Below.refl _ _ | assumption | refine below_drewN ?_ _ | refine Below.drew ?_ | refine Below.setCell ?_ (by first | omega | (simp; done) | (simp; omega)) _ | refine Below.alloc ?_ (by first | omega | (simp; done) | (simp; omega)) _))).trans (hb.mono (by first | omega | (simp; done) | (simp; omega)))
  obtain ⟨hcPw1, hfPw1⟩ := bcell Pw1.out
  have hzw1 := hb.size
  try simp at hzw1
  clear hb
  have l0 : w.heap.size < w1.heap.size := by omega
  have l1 : w.heap.size + 1 < w1.heap.size := by omega
  go_wp2_with fail
  refine (Print_v x A1 c1 _ s 0 HO.out.2 (HX1.out.below (by repeat (first | exact Below.refl _ _ | assumption | refine below_drewN ?_ _ | refine Below.drew ?_ | refine Below.setCell ?_ (by first | omega | (simp; done) | (simp; omega)) _ | refine Below.alloc ?_ (by first | omega | (simp; done) | (simp; omega)) _))) (HR.out.below (by repeat (first | exact Below.refl _ _ | exact (Hw1).out | refine below_drewN ?_ _ | refine Below.drew ?_ | refine Below.setCell ?_ (by first | omega | (simp; done) | (simp; omega)) _ | refine Below.alloc ?_ (by first | omega | (simp; done) | (simp; omega)) _))).rdy).mono ?_
  rintro e w2 ⟨rfl, hb⟩
  have Hw2 : Hid (Below (w.heap.size) (w) w2) := (show Below (w.heap.size) (w) _ from (by repeat (first | exact Below.refl _ _ | exact (Hw1).out | refine below_drewN ?_ _ | refine Below.drew ?_ | refine Below.setCell ?_ (by first | omega | (simp; done) | (simp; omega)) _ | refine Below.alloc ?_ (by first | omega | (simp; done) | (simp; omega)) _))).trans (hb.mono (by first | omega | (simp; done) | (simp; omega)))
  have Pw2 : Hid (Below (w.heap.size + 1 + 1) ((w.alloc (.cells #[.string a.ev, .int .i64 a.ver, .int .i64 a.tm, .int .i64 a.n, .int .i64 a.of, .int .i64 a.grid, .slice A a.cells.length c, .bool a.wd, .int .i64 a.before] 48)).alloc (.cells #[.string b.ev, .int .i64 b.ver, .int .i64 b.tm, .int .i64 b.n, .int .i64 b.of, .int .i64 b.grid, .slice D b.cells.length d, .bool b.wd, .int .i64 b.before] 48)) w2) := (show Below (w.heap.size + 1 + 1) ((w.alloc (.cells #[.string a.ev, .int .i64 a.ver, .int .i64 a.tm, .int .i64 a.n, .int .i64 a.of, .int .i64 a.grid, .slice A a.cells.length c, .bool a.wd, .int .i64 a.before] 48)).alloc (.cells #[.string b.ev, .int .i64 b.ver, .int .i64 b.tm, .int .i64 b.n, .int .i64 b.of, .int .i64 b.grid, .slice D b.cells.length d, .bool b.wd, .int .i64 b.before] 48)) _ from (by repeat (first | exact Below.refl _ _ | exact (Pw1).out | refine below_drewN ?_ _ | refine Below.drew ?_ | refine Below.setCell ?_ (by first | omega | (simp; done) | (simp; omega)) _ | refine Below.alloc ?_ (by first | omega | (simp; done) | (simp; omega)) _))).trans (hb.mono (by first | omega | (simp; done) | (simp; omega)))
  obtain ⟨hcPw2, hfPw2⟩ := bcell Pw2.out
  clear hcPw1 hfPw1
  have Qw2 : Hid (Below (w1.heap.size) (w1) w2) := (show Below (w1.heap.size) (w1) _ from (by repeat (first | exact Below.refl _ _ | assumption | refine below_drewN ?_ _ | refine Below.drew ?_ | refine Below.setCell ?_ (by first | omega | (simp; done) | (simp; omega)) _ | refine Below.alloc ?_ (by first | omega | (simp; done) | (simp; omega)) _))).trans (hb.mono (by first | omega | (simp; done) | (simp; omega)))
  have Xw2 : Hid (Below (w1.heap.size + 1) (w1.alloc (.cells #[.string x.ev, .int .i64 x.ver, .int .i64 x.tm, .int .i64 x.n, .int .i64 x.of, .int .i64 x.grid, .slice A1 x.cells.length c1, .bool x.wd, .int .i64 x.before] 48)) w2) := (show Below (w1.heap.size + 1) (w1.alloc (.cells #[.string x.ev, .int .i64 x.ver, .int .i64 x.tm, .int .i64 x.n, .int .i64 x.of, .int .i64 x.grid, .slice A1 x.cells.length c1, .bool x.wd, .int .i64 x.before] 48)) _ from (by repeat (first | exact Below.refl _ _ | assumption | refine below_drewN ?_ _ | refine Below.drew ?_ | refine Below.setCell ?_ (by first | omega | (simp; done) | (simp; omega)) _ | refine Below.alloc ?_ (by first | omega | (simp; done) | (simp; omega)) _))).trans (hb.mono (by first | omega | (simp; done) | (simp; omega)))
  obtain ⟨hcXw2, hfXw2⟩ := bcell Xw2.out
  have hzw2 := hb.size
  try simp at hzw2
  clear hb
  clear l0 l1
  have l0 : w.heap.size < w2.heap.size := by omega
  have l1 : w.heap.size + 1 < w2.heap.size := by omega
  have l2 : w1.heap.size < w2.heap.size := by omega
  go_wp2_with fail
  refine (CheckAlert_t x A1 c1 _ HO.out.1 (HX1.out.below (by repeat (first | exact Below.refl _ _ | exact (Qw2).out | refine below_drewN ?_ _ | refine Below.drew ?_ | refine Below.setCell ?_ (by first | omega | (simp; done) | (simp; omega)) _ | refine Below.alloc ?_ (by first | omega | (simp; done) | (simp; omega)) _)))).mono ?_
  rintro e w3 ⟨rfl, hb⟩
  have Hw3 : Hid (Below (w.heap.size) (w) w3) := (show Below (w.heap.size) (w) _ from (by repeat (first | exact Below.refl _ _ | exact (Hw2).out | refine below_drewN ?_ _ | refine Below.drew ?_ | refine Below.setCell ?_ (by first | omega | (simp; done) | (simp; omega)) _ | refine Below.alloc ?_ (by first | omega | (simp; done) | (simp; omega)) _))).trans (hb.mono (by first | omega | (simp; done) | (simp; omega)))
  have Pw3 : Hid (Below (w.heap.size + 1 + 1) ((w.alloc (.cells #[.string a.ev, .int .i64 a.ver, .int .i64 a.tm, .int .i64 a.n, .int .i64 a.of, .int .i64 a.grid, .slice A a.cells.length c, .bool a.wd, .int .i64 a.before] 48)).alloc (.cells #[.string b.ev, .int .i64 b.ver, .int .i64 b.tm, .int .i64 b.n, .int .i64 b.of, .int .i64 b.grid, .slice D b.cells.length d, .bool b.wd, .int .i64 b.before] 48)) w3) := (show Below (w.heap.size + 1 + 1) ((w.alloc (.cells #[.string a.ev, .int .i64 a.ver, .int .i64 a.tm, .int .i64 a.n, .int .i64 a.of, .int .i64 a.grid, .slice A a.cells.length c, .bool a.wd, .int .i64 a.before] 48)).alloc (.cells #[.string b.ev, .int .i64 b.ver, .int .i64 b.tm, .int .i64 b.n, .int .i64 b.of, .int .i64 b.grid, .slice D b.cells.length d, .bool b.wd, .int .i64 b.before] 48)) _ from (by repeat (first | exact Below.refl _ _ | exact (Pw2).out | refine below_drewN ?_ _ | refine Below.drew ?_ | refine Below.setCell ?_ (by first | omega | (simp; done) | (simp; omega)) _ | refine Below.alloc ?_ (by first | omega | (simp; done) | (simp; omega)) _))).trans (hb.mono (by first | omega | (simp; done) | (simp; omega)))
  obtain ⟨hcPw3, hfPw3⟩ := bcell Pw3.out
  clear hcPw2 hfPw2
  have Qw3 : Hid (Below (w1.heap.size) (w1) w3) := (show Below (w1.heap.size) (w1) _ from (by repeat (first | exact Below.refl _ _ | exact (Qw2).out | refine below_drewN ?_ _ | refine Below.drew ?_ | refine Below.setCell ?_ (by first | omega | (simp; done) | (simp; omega)) _ | refine Below.alloc ?_ (by first | omega | (simp; done) | (simp; omega)) _))).trans (hb.mono (by first | omega | (simp; done) | (simp; omega)))
  have Xw3 : Hid (Below (w1.heap.size + 1) (w1.alloc (.cells #[.string x.ev, .int .i64 x.ver, .int .i64 x.tm, .int .i64 x.n, .int .i64 x.of, .int .i64 x.grid, .slice A1 x.cells.length c1, .bool x.wd, .int .i64 x.before] 48)) w3) := (show Below (w1.heap.size + 1) (w1.alloc (.cells #[.string x.ev, .int .i64 x.ver, .int .i64 x.tm, .int .i64 x.n, .int .i64 x.of, .int .i64 x.grid, .slice A1 x.cells.length c1, .bool x.wd, .int .i64 x.before] 48)) _ from (by repeat (first | exact Below.refl _ _ | exact (Xw2).out | refine below_drewN ?_ _ | refine Below.drew ?_ | refine Below.setCell ?_ (by first | omega | (simp; done) | (simp; omega)) _ | refine Below.alloc ?_ (by first | omega | (simp; done) | (simp; omega)) _))).trans (hb.mono (by first | omega | (simp; done) | (simp; omega)))
  obtain ⟨hcXw3, hfXw3⟩ := bcell Xw3.out
  clear hcXw2 hfXw2
  have hzw3 := hb.size
  try simp at hzw3
  clear hb
  clear l0 l1 l2
  have l0 : w.heap.size < w3.heap.size := by omega
  have l1 : w.heap.size + 1 < w3.heap.size := by omega
  have l2 : w1.heap.size < w3.heap.size := by omega
  clear hcXw3 hfXw3
  go_wp2_with fail
  refine (Print_v a A c _ ta 0 H1.out (HA.out.below (by repeat (first | exact Below.refl _ _ | exact (Hw3).out | refine below_drewN ?_ _ | refine Below.drew ?_ | refine Below.setCell ?_ (by first | omega | (simp; done) | (simp; omega)) _ | refine Below.alloc ?_ (by first | omega | (simp; done) | (simp; omega)) _))) (HR.out.below (by repeat (first | exact Below.refl _ _ | exact (Hw3).out | refine below_drewN ?_ _ | refine Below.drew ?_ | refine Below.setCell ?_ (by first | omega | (simp; done) | (simp; omega)) _ | refine Below.alloc ?_ (by first | omega | (simp; done) | (simp; omega)) _))).rdy).mono ?_
  rintro e w4 ⟨rfl, hb⟩
  have Hw4 : Hid (Below (w.heap.size) (w) w4) := (show Below (w.heap.size) (w) _ from (by repeat (first | exact Below.refl _ _ | exact (Hw3).out | refine below_drewN ?_ _ | refine Below.drew ?_ | refine Below.setCell ?_ (by first | omega | (simp; done) | (simp; omega)) _ | refine Below.alloc ?_ (by first | omega | (simp; done) | (simp; omega)) _))).trans (hb.mono (by first | omega | (simp; done) | (simp; omega)))
  have Pw4 : Hid (Below (w.heap.size + 1 + 1) ((w.alloc (.cells #[.string a.ev, .int .i64 a.ver, .int .i64 a.tm, .int .i64 a.n, .int .i64 a.of, .int .i64 a.grid, .slice A a.cells.length c, .bool a.wd, .int .i64 a.before] 48)).alloc (.cells #[.string b.ev, .int .i64 b.ver, .int .i64 b.tm, .int .i64 b.n, .int .i64 b.of, .int .i64 b.grid, .slice D b.cells.length d, .bool b.wd, .int .i64 b.before] 48)) w4) := (show Below (w.heap.size + 1 + 1) ((w.alloc (.cells #[.string a.ev, .int .i64 a.ver, .int .i64 a.tm, .int .i64 a.n, .int .i64 a.of, .int .i64 a.grid, .slice A a.cells.length c, .bool a.wd, .int .i64 a.before] 48)).alloc (.cells #[.string b.ev, .int .i64 b.ver, .int .i64 b.tm, .int .i64 b.n, .int .i64 b.of, .int .i64 b.grid, .slice D b.cells.length d, .bool b.wd, .int .i64 b.before] 48)) _ from (by repeat (first | exact Below.refl _ _ | exact (Pw3).out | refine below_drewN ?_ _ | refine Below.drew ?_ | refine Below.setCell ?_ (by first | omega | (simp; done) | (simp; omega)) _ | refine Below.alloc ?_ (by first | omega | (simp; done) | (simp; omega)) _))).trans (hb.mono (by first | omega | (simp; done) | (simp; omega)))
  obtain ⟨hcPw4, hfPw4⟩ := bcell Pw4.out
  clear hcPw3 hfPw3
  have hzw4 := hb.size
  try simp at hzw4
  clear hb
  clear l0 l1 l2
  have l0 : w.heap.size < w4.heap.size := by omega
  have l1 : w.heap.size + 1 < w4.heap.size := by omega
  go_wp2_with fail
  refine (Print_v b D d _ ⟨#[]⟩ 101 H2.out (HB.out.below (by repeat (first | exact Below.refl _ _ | exact (Hw4).out | refine below_drewN ?_ _ | refine Below.drew ?_ | refine Below.setCell ?_ (by first | omega | (simp; done) | (simp; omega)) _ | refine Below.alloc ?_ (by first | omega | (simp; done) | (simp; omega)) _))) (HR.out.below (by repeat (first | exact Below.refl _ _ | exact (Hw4).out | refine below_drewN ?_ _ | refine Below.drew ?_ | refine Below.setCell ?_ (by first | omega | (simp; done) | (simp; omega)) _ | refine Below.alloc ?_ (by first | omega | (simp; done) | (simp; omega)) _))).rdy).mono ?_
  rintro e w5 ⟨rfl, hb⟩
  have Hw5 : Hid (Below (w.heap.size) (w) w5) := (show Below (w.heap.size) (w) _ from (by repeat (first | exact Below.refl _ _ | exact (Hw4).out | refine below_drewN ?_ _ | refine Below.drew ?_ | refine Below.setCell ?_ (by first | omega | (simp; done) | (simp; omega)) _ | refine Below.alloc ?_ (by first | omega | (simp; done) | (simp; omega)) _))).trans (hb.mono (by first | omega | (simp; done) | (simp; omega)))
  have Pw5 : Hid (Below (w.heap.size + 1 + 1) ((w.alloc (.cells #[.string a.ev, .int .i64 a.ver, .int .i64 a.tm, .int .i64 a.n, .int .i64 a.of, .int .i64 a.grid, .slice A a.cells.length c, .bool a.wd, .int .i64 a.before] 48)).alloc (.cells #[.string b.ev, .int .i64 b.ver, .int .i64 b.tm, .int .i64 b.n, .int .i64 b.of, .int .i64 b.grid, .slice D b.cells.length d, .bool b.wd, .int .i64 b.before] 48)) w5) := (show Below (w.heap.size + 1 + 1) ((w.alloc (.cells #[.string a.ev, .int .i64 a.ver, .int .i64 a.tm, .int .i64 a.n, .int .i64 a.of, .int .i64 a.grid, .slice A a.cells.length c, .bool a.wd, .int .i64 a.before] 48)).alloc (.cells #[.string b.ev, .int .i64 b.ver, .int .i64 b.tm, .int .i64 b.n, .int .i64 b.of, .int .i64 b.grid, .slice D b.cells.length d, .bool b.wd, .int .i64 b.before] 48)) _ from (by repeat (first | exact Below.refl _ _ | exact (Pw4).out | refine below_drewN ?_ _ | refine Below.drew ?_ | refine Below.setCell ?_ (by first | omega | (simp; done) | (simp; omega)) _ | refine Below.alloc ?_ (by first | omega | (simp; done) | (simp; omega)) _))).trans (hb.mono (by first | omega | (simp; done) | (simp; omega)))
  obtain ⟨hcPw5, hfPw5⟩ := bcell Pw5.out
  clear hcPw4 hfPw4
  have hzw5 := hb.size
  try simp at hzw5
  clear hb
  clear l0 l1
  have l0 : w.heap.size < w5.heap.size := by omega
  have l1 : w.heap.size + 1 < w5.heap.size := by omega
  go_wp2_with fail
  refine (Parse_v ta _ a 0 HP.out HM.out (HR.out.below (by repeat (first | exact Below.refl _ _ | exact (Hw5).out | refine below_drewN ?_ _ | refine Below.drew ?_ | refine Below.setCell ?_ (by first | omega | (simp; done) | (simp; omega)) _ | refine Below.alloc ?_ (by first | omega | (simp; done) | (simp; omega)) _)))).mono ?_
  rintro e w6 ⟨A6, c6, rfl, ho6, hb⟩
  have Hw6 : Hid (Below (w.heap.size) (w) w6) := (show Below (w.heap.size) (w) _ from (by repeat (first | exact Below.refl _ _ | exact (Hw5).out | refine below_drewN ?_ _ | refine Below.drew ?_ | refine Below.setCell ?_ (by first | omega | (simp; done) | (simp; omega)) _ | refine Below.alloc ?_ (by first | omega | (simp; done) | (simp; omega)) _))).trans (hb.mono (by first | omega | (simp; done) | (simp; omega)))
  have Pw6 : Hid (Below (w.heap.size + 1 + 1) ((w.alloc (.cells #[.string a.ev, .int .i64 a.ver, .int .i64 a.tm, .int .i64 a.n, .int .i64 a.of, .int .i64 a.grid, .slice A a.cells.length c, .bool a.wd, .int .i64 a.before] 48)).alloc (.cells #[.string b.ev, .int .i64 b.ver, .int .i64 b.tm, .int .i64 b.n, .int .i64 b.of, .int .i64 b.grid, .slice D b.cells.length d, .bool b.wd, .int .i64 b.before] 48)) w6) := (show Below (w.heap.size + 1 + 1) ((w.alloc (.cells #[.string a.ev, .int .i64 a.ver, .int .i64 a.tm, .int .i64 a.n, .int .i64 a.of, .int .i64 a.grid, .slice A a.cells.length c, .bool a.wd, .int .i64 a.before] 48)).alloc (.cells #[.string b.ev, .int .i64 b.ver, .int .i64 b.tm, .int .i64 b.n, .int .i64 b.of, .int .i64 b.grid, .slice D b.cells.length d, .bool b.wd, .int .i64 b.before] 48)) _ from (by repeat (first | exact Below.refl _ _ | exact (Pw5).out | refine below_drewN ?_ _ | refine Below.drew ?_ | refine Below.setCell ?_ (by first | omega | (simp; done) | (simp; omega)) _ | refine Below.alloc ?_ (by first | omega | (simp; done) | (simp; omega)) _))).trans (hb.mono (by first | omega | (simp; done) | (simp; omega)))
  obtain ⟨hcPw6, hfPw6⟩ := bcell Pw6.out
  clear hcPw5 hfPw5
  have hzw6 := hb.size
  try simp at hzw6
  clear hb
  clear l0 l1
  have l0 : w.heap.size < w6.heap.size := by omega
  have l1 : w.heap.size + 1 < w6.heap.size := by omega
  have HX6 : Hid (AIn w6 a A6 c6) := own_in HEV.out ho6
  clear ho6
  go_wp2_with fail
  refine (Digest_v a A c _ d1 0 HD1.out HK1.out (HA.out.below (by repeat (first | exact Below.refl _ _ | exact (Hw6).out | refine below_drewN ?_ _ | refine Below.drew ?_ | refine Below.setCell ?_ (by first | omega | (simp; done) | (simp; omega)) _ | refine Below.alloc ?_ (by first | omega | (simp; done) | (simp; omega)) _))) (HR.out.below (by repeat (first | exact Below.refl _ _ | exact (Hw6).out | refine below_drewN ?_ _ | refine Below.drew ?_ | refine Below.setCell ?_ (by first | omega | (simp; done) | (simp; omega)) _ | refine Below.alloc ?_ (by first | omega | (simp; done) | (simp; omega)) _))).rdy).mono ?_
  rintro e w7 ⟨rfl, hb⟩
  have Hw7 : Hid (Below (w.heap.size) (w) w7) := (show Below (w.heap.size) (w) _ from (by repeat (first | exact Below.refl _ _ | exact (Hw6).out | refine below_drewN ?_ _ | refine Below.drew ?_ | refine Below.setCell ?_ (by first | omega | (simp; done) | (simp; omega)) _ | refine Below.alloc ?_ (by first | omega | (simp; done) | (simp; omega)) _))).trans (hb.mono (by first | omega | (simp; done) | (simp; omega)))
  have Pw7 : Hid (Below (w.heap.size + 1 + 1) ((w.alloc (.cells #[.string a.ev, .int .i64 a.ver, .int .i64 a.tm, .int .i64 a.n, .int .i64 a.of, .int .i64 a.grid, .slice A a.cells.length c, .bool a.wd, .int .i64 a.before] 48)).alloc (.cells #[.string b.ev, .int .i64 b.ver, .int .i64 b.tm, .int .i64 b.n, .int .i64 b.of, .int .i64 b.grid, .slice D b.cells.length d, .bool b.wd, .int .i64 b.before] 48)) w7) := (show Below (w.heap.size + 1 + 1) ((w.alloc (.cells #[.string a.ev, .int .i64 a.ver, .int .i64 a.tm, .int .i64 a.n, .int .i64 a.of, .int .i64 a.grid, .slice A a.cells.length c, .bool a.wd, .int .i64 a.before] 48)).alloc (.cells #[.string b.ev, .int .i64 b.ver, .int .i64 b.tm, .int .i64 b.n, .int .i64 b.of, .int .i64 b.grid, .slice D b.cells.length d, .bool b.wd, .int .i64 b.before] 48)) _ from (by repeat (first | exact Below.refl _ _ | exact (Pw6).out | refine below_drewN ?_ _ | refine Below.drew ?_ | refine Below.setCell ?_ (by first | omega | (simp; done) | (simp; omega)) _ | refine Below.alloc ?_ (by first | omega | (simp; done) | (simp; omega)) _))).trans (hb.mono (by first | omega | (simp; done) | (simp; omega)))
  obtain ⟨hcPw7, hfPw7⟩ := bcell Pw7.out
  clear hcPw6 hfPw6
  have Rw7 : Hid (Below (w6.heap.size) (w6) w7) := (show Below (w6.heap.size) (w6) _ from (by repeat (first | exact Below.refl _ _ | assumption | refine below_drewN ?_ _ | refine Below.drew ?_ | refine Below.setCell ?_ (by first | omega | (simp; done) | (simp; omega)) _ | refine Below.alloc ?_ (by first | omega | (simp; done) | (simp; omega)) _))).trans (hb.mono (by first | omega | (simp; done) | (simp; omega)))
  have Yw7 : Hid (Below (w6.heap.size + 1) (w6.alloc (.cells #[.string a.ev, .int .i64 a.ver, .int .i64 a.tm, .int .i64 a.n, .int .i64 a.of, .int .i64 a.grid, .slice A6 a.cells.length c6, .bool a.wd, .int .i64 a.before] 48)) w7) := (show Below (w6.heap.size + 1) (w6.alloc (.cells #[.string a.ev, .int .i64 a.ver, .int .i64 a.tm, .int .i64 a.n, .int .i64 a.of, .int .i64 a.grid, .slice A6 a.cells.length c6, .bool a.wd, .int .i64 a.before] 48)) _ from (by repeat (first | exact Below.refl _ _ | assumption | refine below_drewN ?_ _ | refine Below.drew ?_ | refine Below.setCell ?_ (by first | omega | (simp; done) | (simp; omega)) _ | refine Below.alloc ?_ (by first | omega | (simp; done) | (simp; omega)) _))).trans (hb.mono (by first | omega | (simp; done) | (simp; omega)))
  obtain ⟨hcYw7, hfYw7⟩ := bcell Yw7.out
  have hzw7 := hb.size
  try simp at hzw7
  clear hb
  clear l0 l1
  have l0 : w.heap.size < w7.heap.size := by omega
  have l1 : w.heap.size + 1 < w7.heap.size := by omega
  have l2 : w6.heap.size < w7.heap.size := by omega
  go_wp2_with fail
  refine (Digest_v b D d _ d2 101 HD2.out HK2.out (HB.out.below (by repeat (first | exact Below.refl _ _ | exact (Hw7).out | refine below_drewN ?_ _ | refine Below.drew ?_ | refine Below.setCell ?_ (by first | omega | (simp; done) | (simp; omega)) _ | refine Below.alloc ?_ (by first | omega | (simp; done) | (simp; omega)) _))) (HR.out.below (by repeat (first | exact Below.refl _ _ | exact (Hw7).out | refine below_drewN ?_ _ | refine Below.drew ?_ | refine Below.setCell ?_ (by first | omega | (simp; done) | (simp; omega)) _ | refine Below.alloc ?_ (by first | omega | (simp; done) | (simp; omega)) _))).rdy).mono ?_
  rintro e w8 ⟨rfl, hb⟩
  have Hw8 : Hid (Below (w.heap.size) (w) w8) := (show Below (w.heap.size) (w) _ from (by repeat (first | exact Below.refl _ _ | exact (Hw7).out | refine below_drewN ?_ _ | refine Below.drew ?_ | refine Below.setCell ?_ (by first | omega | (simp; done) | (simp; omega)) _ | refine Below.alloc ?_ (by first | omega | (simp; done) | (simp; omega)) _))).trans (hb.mono (by first | omega | (simp; done) | (simp; omega)))
  have Pw8 : Hid (Below (w.heap.size + 1 + 1) ((w.alloc (.cells #[.string a.ev, .int .i64 a.ver, .int .i64 a.tm, .int .i64 a.n, .int .i64 a.of, .int .i64 a.grid, .slice A a.cells.length c, .bool a.wd, .int .i64 a.before] 48)).alloc (.cells #[.string b.ev, .int .i64 b.ver, .int .i64 b.tm, .int .i64 b.n, .int .i64 b.of, .int .i64 b.grid, .slice D b.cells.length d, .bool b.wd, .int .i64 b.before] 48)) w8) := (show Below (w.heap.size + 1 + 1) ((w.alloc (.cells #[.string a.ev, .int .i64 a.ver, .int .i64 a.tm, .int .i64 a.n, .int .i64 a.of, .int .i64 a.grid, .slice A a.cells.length c, .bool a.wd, .int .i64 a.before] 48)).alloc (.cells #[.string b.ev, .int .i64 b.ver, .int .i64 b.tm, .int .i64 b.n, .int .i64 b.of, .int .i64 b.grid, .slice D b.cells.length d, .bool b.wd, .int .i64 b.before] 48)) _ from (by repeat (first | exact Below.refl _ _ | exact (Pw7).out | refine below_drewN ?_ _ | refine Below.drew ?_ | refine Below.setCell ?_ (by first | omega | (simp; done) | (simp; omega)) _ | refine Below.alloc ?_ (by first | omega | (simp; done) | (simp; omega)) _))).trans (hb.mono (by first | omega | (simp; done) | (simp; omega)))
  obtain ⟨hcPw8, hfPw8⟩ := bcell Pw8.out
  clear hcPw7 hfPw7
  have Rw8 : Hid (Below (w6.heap.size) (w6) w8) := (show Below (w6.heap.size) (w6) _ from (by repeat (first | exact Below.refl _ _ | exact (Rw7).out | refine below_drewN ?_ _ | refine Below.drew ?_ | refine Below.setCell ?_ (by first | omega | (simp; done) | (simp; omega)) _ | refine Below.alloc ?_ (by first | omega | (simp; done) | (simp; omega)) _))).trans (hb.mono (by first | omega | (simp; done) | (simp; omega)))
  have Yw8 : Hid (Below (w6.heap.size + 1) (w6.alloc (.cells #[.string a.ev, .int .i64 a.ver, .int .i64 a.tm, .int .i64 a.n, .int .i64 a.of, .int .i64 a.grid, .slice A6 a.cells.length c6, .bool a.wd, .int .i64 a.before] 48)) w8) := (show Below (w6.heap.size + 1) (w6.alloc (.cells #[.string a.ev, .int .i64 a.ver, .int .i64 a.tm, .int .i64 a.n, .int .i64 a.of, .int .i64 a.grid, .slice A6 a.cells.length c6, .bool a.wd, .int .i64 a.before] 48)) _ from (by repeat (first | exact Below.refl _ _ | exact (Yw7).out | refine below_drewN ?_ _ | refine Below.drew ?_ | refine Below.setCell ?_ (by first | omega | (simp; done) | (simp; omega)) _ | refine Below.alloc ?_ (by first | omega | (simp; done) | (simp; omega)) _))).trans (hb.mono (by first | omega | (simp; done) | (simp; omega)))
  obtain ⟨hcYw8, hfYw8⟩ := bcell Yw8.out
  clear hcYw7 hfYw7
  have hzw8 := hb.size
  try simp at hzw8
  clear hb
  clear l0 l1 l2
  have l0 : w.heap.size < w8.heap.size := by omega
  have l1 : w.heap.size + 1 < w8.heap.size := by omega
  have l2 : w6.heap.size < w8.heap.size := by omega
  go_wp2_with fail
  refine (pSame_ a a A c A6 c6 _ (HA.out.below (by repeat (first | exact Below.refl _ _ | exact (Hw8).out | refine below_drewN ?_ _ | refine Below.drew ?_ | refine Below.setCell ?_ (by first | omega | (simp; done) | (simp; omega)) _ | refine Below.alloc ?_ (by first | omega | (simp; done) | (simp; omega)) _))) (HX6.out.below (by repeat (first | exact Below.refl _ _ | exact (Rw8).out | refine below_drewN ?_ _ | refine Below.drew ?_ | refine Below.setCell ?_ (by first | omega | (simp; done) | (simp; omega)) _ | refine Below.alloc ?_ (by first | omega | (simp; done) | (simp; omega)) _))) true (sameB_refl a)).mono ?_
  rintro e w9 ⟨rfl, hb⟩
  have Hw9 : Hid (Below (w.heap.size) (w) w9) := (show Below (w.heap.size) (w) _ from (by repeat (first | exact Below.refl _ _ | exact (Hw8).out | refine below_drewN ?_ _ | refine Below.drew ?_ | refine Below.setCell ?_ (by first | omega | (simp; done) | (simp; omega)) _ | refine Below.alloc ?_ (by first | omega | (simp; done) | (simp; omega)) _))).trans (hb.mono (by first | omega | (simp; done) | (simp; omega)))
  have Pw9 : Hid (Below (w.heap.size + 1 + 1) ((w.alloc (.cells #[.string a.ev, .int .i64 a.ver, .int .i64 a.tm, .int .i64 a.n, .int .i64 a.of, .int .i64 a.grid, .slice A a.cells.length c, .bool a.wd, .int .i64 a.before] 48)).alloc (.cells #[.string b.ev, .int .i64 b.ver, .int .i64 b.tm, .int .i64 b.n, .int .i64 b.of, .int .i64 b.grid, .slice D b.cells.length d, .bool b.wd, .int .i64 b.before] 48)) w9) := (show Below (w.heap.size + 1 + 1) ((w.alloc (.cells #[.string a.ev, .int .i64 a.ver, .int .i64 a.tm, .int .i64 a.n, .int .i64 a.of, .int .i64 a.grid, .slice A a.cells.length c, .bool a.wd, .int .i64 a.before] 48)).alloc (.cells #[.string b.ev, .int .i64 b.ver, .int .i64 b.tm, .int .i64 b.n, .int .i64 b.of, .int .i64 b.grid, .slice D b.cells.length d, .bool b.wd, .int .i64 b.before] 48)) _ from (by repeat (first | exact Below.refl _ _ | exact (Pw8).out | refine below_drewN ?_ _ | refine Below.drew ?_ | refine Below.setCell ?_ (by first | omega | (simp; done) | (simp; omega)) _ | refine Below.alloc ?_ (by first | omega | (simp; done) | (simp; omega)) _))).trans (hb.mono (by first | omega | (simp; done) | (simp; omega)))
  obtain ⟨hcPw9, hfPw9⟩ := bcell Pw9.out
  clear hcPw8 hfPw8
  have Rw9 : Hid (Below (w6.heap.size) (w6) w9) := (show Below (w6.heap.size) (w6) _ from (by repeat (first | exact Below.refl _ _ | exact (Rw8).out | refine below_drewN ?_ _ | refine Below.drew ?_ | refine Below.setCell ?_ (by first | omega | (simp; done) | (simp; omega)) _ | refine Below.alloc ?_ (by first | omega | (simp; done) | (simp; omega)) _))).trans (hb.mono (by first | omega | (simp; done) | (simp; omega)))
  have Yw9 : Hid (Below (w6.heap.size + 1) (w6.alloc (.cells #[.string a.ev, .int .i64 a.ver, .int .i64 a.tm, .int .i64 a.n, .int .i64 a.of, .int .i64 a.grid, .slice A6 a.cells.length c6, .bool a.wd, .int .i64 a.before] 48)) w9) := (show Below (w6.heap.size + 1) (w6.alloc (.cells #[.string a.ev, .int .i64 a.ver, .int .i64 a.tm, .int .i64 a.n, .int .i64 a.of, .int .i64 a.grid, .slice A6 a.cells.length c6, .bool a.wd, .int .i64 a.before] 48)) _ from (by repeat (first | exact Below.refl _ _ | exact (Yw8).out | refine below_drewN ?_ _ | refine Below.drew ?_ | refine Below.setCell ?_ (by first | omega | (simp; done) | (simp; omega)) _ | refine Below.alloc ?_ (by first | omega | (simp; done) | (simp; omega)) _))).trans (hb.mono (by first | omega | (simp; done) | (simp; omega)))
  obtain ⟨hcYw9, hfYw9⟩ := bcell Yw9.out
  clear hcYw8 hfYw8
  have hzw9 := hb.size
  try simp at hzw9
  clear hb
  clear l0 l1 l2
  have l0 : w.heap.size < w9.heap.size := by omega
  have l1 : w.heap.size + 1 < w9.heap.size := by omega
  have l2 : w6.heap.size < w9.heap.size := by omega
  clear hcYw9 hfYw9
  go_wp2_with fail
  refine (works_ _ (HR.out.below (by repeat (first | exact Below.refl _ _ | exact (Hw9).out | refine below_drewN ?_ _ | refine Below.drew ?_ | refine Below.setCell ?_ (by first | omega | (simp; done) | (simp; omega)) _ | refine Below.alloc ?_ (by first | omega | (simp; done) | (simp; omega)) _))).rdy).mono ?_
  rintro e w10 ⟨rfl, hb⟩
  have Hw10 : Hid (Below (w.heap.size) (w) w10) := (show Below (w.heap.size) (w) _ from (by repeat (first | exact Below.refl _ _ | exact (Hw9).out | refine below_drewN ?_ _ | refine Below.drew ?_ | refine Below.setCell ?_ (by first | omega | (simp; done) | (simp; omega)) _ | refine Below.alloc ?_ (by first | omega | (simp; done) | (simp; omega)) _))).trans (hb.mono (by first | omega | (simp; done) | (simp; omega)))
  have Pw10 : Hid (Below (w.heap.size + 1 + 1) ((w.alloc (.cells #[.string a.ev, .int .i64 a.ver, .int .i64 a.tm, .int .i64 a.n, .int .i64 a.of, .int .i64 a.grid, .slice A a.cells.length c, .bool a.wd, .int .i64 a.before] 48)).alloc (.cells #[.string b.ev, .int .i64 b.ver, .int .i64 b.tm, .int .i64 b.n, .int .i64 b.of, .int .i64 b.grid, .slice D b.cells.length d, .bool b.wd, .int .i64 b.before] 48)) w10) := (show Below (w.heap.size + 1 + 1) ((w.alloc (.cells #[.string a.ev, .int .i64 a.ver, .int .i64 a.tm, .int .i64 a.n, .int .i64 a.of, .int .i64 a.grid, .slice A a.cells.length c, .bool a.wd, .int .i64 a.before] 48)).alloc (.cells #[.string b.ev, .int .i64 b.ver, .int .i64 b.tm, .int .i64 b.n, .int .i64 b.of, .int .i64 b.grid, .slice D b.cells.length d, .bool b.wd, .int .i64 b.before] 48)) _ from (by repeat (first | exact Below.refl _ _ | exact (Pw9).out | refine below_drewN ?_ _ | refine Below.drew ?_ | refine Below.setCell ?_ (by first | omega | (simp; done) | (simp; omega)) _ | refine Below.alloc ?_ (by first | omega | (simp; done) | (simp; omega)) _))).trans (hb.mono (by first | omega | (simp; done) | (simp; omega)))
  obtain ⟨hcPw10, hfPw10⟩ := bcell Pw10.out
  clear hcPw9 hfPw9
  have hzw10 := hb.size
  try simp at hzw10
  clear hb
  clear l0 l1 l2
  have l0 : w.heap.size < w10.heap.size := by omega
  have l1 : w.heap.size + 1 < w10.heap.size := by omega
  go_wp2_with fail
  go_ret
  exact ⟨rfl, Hw10.out⟩
set_option maxRecDepth 100000 in
set_option maxHeartbeats 16000000 in
theorem lback_1e (a x : Alr) (A : Option Addr) (c : Nat) (D : Option Addr) (d : Nat) (s : ByteArray) (w : World) (ha : AIn w a A c) (hb : AIn w a D d) (hs : s.size ≤ maxLen) (hr : RdyP w) (hx : parseR parseB s.data.toList = (x, 0)) (h1 : okA a = true) :
    Calls Tryz.prog 10 #[a.val A c, a.val D d, .string s] w fun e w' => e = .returned (.bool true) ∧ Below w.heap.size w w' := by
  have HA := Lib.hid ha
  have HB := Lib.hid hb
  have HR := Lib.hid hr
  have HX := Lib.hid hx
  have HS := Lib.hid hs
  have HE := Lib.hid (parse_ev hx)
  have HO := Lib.hid (parse_print hx)
  have q0 : (s.toList == s.toList) = true := by simp
  have H1 := Lib.hid (printR_t h1)
  have HP := Lib.hid (parse_back h1)
  have HM := Lib.hid (txS_max h1)
  have HEV := Lib.hid ha.ev
  have HK1 : Hid (errA (okA a) 101 = 0) := errA_t h1
  obtain ⟨ta, hta⟩ : ∃ t, t = txS a := ⟨_, rfl⟩
  rw [← hta] at H1 HP HM
  have q1 : (ta.toList == ta.toList) = true := by simp
  obtain ⟨d1, hd1⟩ : ∃ d, digE a = d := ⟨_, rfl⟩
  have HD1 := Lib.hid hd1
  have q2 : (d1 == d1) = true := by simp
  have H2 := H1
  have HK2 := HK1
  have HD2 := HD1
  clear hd1 hta
  clear ha hb hr hx hs h1
  go_enter Tryz.func10, Tryz.ntmps10
  go_wp2_with fail
  refine (Parse_v s _ x 0 HX.out HS.out (HR.out.below (by repeat (first | exact Below.refl _ _ | assumption | refine below_drewN ?_ _ | refine Below.drew ?_ | refine Below.setCell ?_ (by first | omega | (simp; done) | (simp; omega)) _ | refine Below.alloc ?_ (by first | omega | (simp; done) | (simp; omega)) _)))).mono ?_
  rintro e w1 ⟨A1, c1, rfl, ho1, hb⟩
  have HX1 : Hid (AIn w1 x A1 c1) := own_in HE.out ho1
  clear ho1
  have Hw1 : Hid (Below (w.heap.size) (w) w1) := (show Below (w.heap.size) (w) _ from (by repeat (first | exact Below.refl _ _ | assumption | refine below_drewN ?_ _ | refine Below.drew ?_ | refine Below.setCell ?_ (by first | omega | (simp; done) | (simp; omega)) _ | refine Below.alloc ?_ (by first | omega | (simp; done) | (simp; omega)) _))).trans (hb.mono (by first | omega | (simp; done) | (simp; omega)))
  have Pw1 : Hid (Below (w.heap.size + 1 + 1) ((w.alloc (.cells #[.string a.ev, .int .i64 a.ver, .int .i64 a.tm, .int .i64 a.n, .int .i64 a.of, .int .i64 a.grid, .slice A a.cells.length c, .bool a.wd, .int .i64 a.before] 48)).alloc (.cells #[.string a.ev, .int .i64 a.ver, .int .i64 a.tm, .int .i64 a.n, .int .i64 a.of, .int .i64 a.grid, .slice D a.cells.length d, .bool a.wd, .int .i64 a.before] 48)) w1) := (show Below (w.heap.size + 1 + 1) ((w.alloc (.cells #[.string a.ev, .int .i64 a.ver, .int .i64 a.tm, .int .i64 a.n, .int .i64 a.of, .int .i64 a.grid, .slice A a.cells.length c, .bool a.wd, .int .i64 a.before] 48)).alloc (.cells #[.string a.ev, .int .i64 a.ver, .int .i64 a.tm, .int .i64 a.n, .int .i64 a.of, .int .i64 a.grid, .slice D a.cells.length d, .bool a.wd, .int .i64 a.before] 48)) _ from (by repeat (first | exact Below.refl _ _ | assumption | refine below_drewN ?_ _ | refine Below.drew ?_ | refine Below.setCell ?_ (by first | omega | (simp; done) | (simp; omega)) _ | refine Below.alloc ?_ (by first | omega | (simp; done) | (simp; omega)) _))).trans (hb.mono (by first | omega | (simp; done) | (simp; omega)))
  obtain ⟨hcPw1, hfPw1⟩ := bcell Pw1.out
  have hzw1 := hb.size
  try simp at hzw1
  clear hb
  have l0 : w.heap.size < w1.heap.size := by omega
  have l1 : w.heap.size + 1 < w1.heap.size := by omega
  go_wp2_with fail
  refine (Print_v x A1 c1 _ s 0 HO.out.2 (HX1.out.below (by repeat (first | exact Below.refl _ _ | assumption | refine below_drewN ?_ _ | refine Below.drew ?_ | refine Below.setCell ?_ (by first | omega | (simp; done) | (simp; omega)) _ | refine Below.alloc ?_ (by first | omega | (simp; done) | (simp; omega)) _))) (HR.out.below (by repeat (first | exact Below.refl _ _ | exact (Hw1).out | refine below_drewN ?_ _ | refine Below.drew ?_ | refine Below.setCell ?_ (by first | omega | (simp; done) | (simp; omega)) _ | refine Below.alloc ?_ (by first | omega | (simp; done) | (simp; omega)) _))).rdy).mono ?_
  rintro e w2 ⟨rfl, hb⟩
  have Hw2 : Hid (Below (w.heap.size) (w) w2) := (show Below (w.heap.size) (w) _ from (by repeat (first | exact Below.refl _ _ | exact (Hw1).out | refine below_drewN ?_ _ | refine Below.drew ?_ | refine Below.setCell ?_ (by first | omega | (simp; done) | (simp; omega)) _ | refine Below.alloc ?_ (by first | omega | (simp; done) | (simp; omega)) _))).trans (hb.mono (by first | omega | (simp; done) | (simp; omega)))
  have Pw2 : Hid (Below (w.heap.size + 1 + 1) ((w.alloc (.cells #[.string a.ev, .int .i64 a.ver, .int .i64 a.tm, .int .i64 a.n, .int .i64 a.of, .int .i64 a.grid, .slice A a.cells.length c, .bool a.wd, .int .i64 a.before] 48)).alloc (.cells #[.string a.ev, .int .i64 a.ver, .int .i64 a.tm, .int .i64 a.n, .int .i64 a.of, .int .i64 a.grid, .slice D a.cells.length d, .bool a.wd, .int .i64 a.before] 48)) w2) := (show Below (w.heap.size + 1 + 1) ((w.alloc (.cells #[.string a.ev, .int .i64 a.ver, .int .i64 a.tm, .int .i64 a.n, .int .i64 a.of, .int .i64 a.grid, .slice A a.cells.length c, .bool a.wd, .int .i64 a.before] 48)).alloc (.cells #[.string a.ev, .int .i64 a.ver, .int .i64 a.tm, .int .i64 a.n, .int .i64 a.of, .int .i64 a.grid, .slice D a.cells.length d, .bool a.wd, .int .i64 a.before] 48)) _ from (by repeat (first | exact Below.refl _ _ | exact (Pw1).out | refine below_drewN ?_ _ | refine Below.drew ?_ | refine Below.setCell ?_ (by first | omega | (simp; done) | (simp; omega)) _ | refine Below.alloc ?_ (by first | omega | (simp; done) | (simp; omega)) _))).trans (hb.mono (by first | omega | (simp; done) | (simp; omega)))
  obtain ⟨hcPw2, hfPw2⟩ := bcell Pw2.out
  clear hcPw1 hfPw1
  have Qw2 : Hid (Below (w1.heap.size) (w1) w2) := (show Below (w1.heap.size) (w1) _ from (by repeat (first | exact Below.refl _ _ | assumption | refine below_drewN ?_ _ | refine Below.drew ?_ | refine Below.setCell ?_ (by first | omega | (simp; done) | (simp; omega)) _ | refine Below.alloc ?_ (by first | omega | (simp; done) | (simp; omega)) _))).trans (hb.mono (by first | omega | (simp; done) | (simp; omega)))
  have Xw2 : Hid (Below (w1.heap.size + 1) (w1.alloc (.cells #[.string x.ev, .int .i64 x.ver, .int .i64 x.tm, .int .i64 x.n, .int .i64 x.of, .int .i64 x.grid, .slice A1 x.cells.length c1, .bool x.wd, .int .i64 x.before] 48)) w2) := (show Below (w1.heap.size + 1) (w1.alloc (.cells #[.string x.ev, .int .i64 x.ver, .int .i64 x.tm, .int .i64 x.n, .int .i64 x.of, .int .i64 x.grid, .slice A1 x.cells.length c1, .bool x.wd, .int .i64 x.before] 48)) _ from (by repeat (first | exact Below.refl _ _ | assumption | refine below_drewN ?_ _ | refine Below.drew ?_ | refine Below.setCell ?_ (by first | omega | (simp; done) | (simp; omega)) _ | refine Below.alloc ?_ (by first | omega | (simp; done) | (simp; omega)) _))).trans (hb.mono (by first | omega | (simp; done) | (simp; omega)))
  obtain ⟨hcXw2, hfXw2⟩ := bcell Xw2.out
  have hzw2 := hb.size
  try simp at hzw2
  clear hb
  clear l0 l1
  have l0 : w.heap.size < w2.heap.size := by omega
  have l1 : w.heap.size + 1 < w2.heap.size := by omega
  have l2 : w1.heap.size < w2.heap.size := by omega
  go_wp2_with fail
  refine (CheckAlert_t x A1 c1 _ HO.out.1 (HX1.out.below (by repeat (first | exact Below.refl _ _ | exact (Qw2).out | refine below_drewN ?_ _ | refine Below.drew ?_ | refine Below.setCell ?_ (by first | omega | (simp; done) | (simp; omega)) _ | refine Below.alloc ?_ (by first | omega | (simp; done) | (simp; omega)) _)))).mono ?_
  rintro e w3 ⟨rfl, hb⟩
  have Hw3 : Hid (Below (w.heap.size) (w) w3) := (show Below (w.heap.size) (w) _ from (by repeat (first | exact Below.refl _ _ | exact (Hw2).out | refine below_drewN ?_ _ | refine Below.drew ?_ | refine Below.setCell ?_ (by first | omega | (simp; done) | (simp; omega)) _ | refine Below.alloc ?_ (by first | omega | (simp; done) | (simp; omega)) _))).trans (hb.mono (by first | omega | (simp; done) | (simp; omega)))
  have Pw3 : Hid (Below (w.heap.size + 1 + 1) ((w.alloc (.cells #[.string a.ev, .int .i64 a.ver, .int .i64 a.tm, .int .i64 a.n, .int .i64 a.of, .int .i64 a.grid, .slice A a.cells.length c, .bool a.wd, .int .i64 a.before] 48)).alloc (.cells #[.string a.ev, .int .i64 a.ver, .int .i64 a.tm, .int .i64 a.n, .int .i64 a.of, .int .i64 a.grid, .slice D a.cells.length d, .bool a.wd, .int .i64 a.before] 48)) w3) := (show Below (w.heap.size + 1 + 1) ((w.alloc (.cells #[.string a.ev, .int .i64 a.ver, .int .i64 a.tm, .int .i64 a.n, .int .i64 a.of, .int .i64 a.grid, .slice A a.cells.length c, .bool a.wd, .int .i64 a.before] 48)).alloc (.cells #[.string a.ev, .int .i64 a.ver, .int .i64 a.tm, .int .i64 a.n, .int .i64 a.of, .int .i64 a.grid, .slice D a.cells.length d, .bool a.wd, .int .i64 a.before] 48)) _ from (by repeat (first | exact Below.refl _ _ | exact (Pw2).out | refine below_drewN ?_ _ | refine Below.drew ?_ | refine Below.setCell ?_ (by first | omega | (simp; done) | (simp; omega)) _ | refine Below.alloc ?_ (by first | omega | (simp; done) | (simp; omega)) _))).trans (hb.mono (by first | omega | (simp; done) | (simp; omega)))
  obtain ⟨hcPw3, hfPw3⟩ := bcell Pw3.out
  clear hcPw2 hfPw2
  have Qw3 : Hid (Below (w1.heap.size) (w1) w3) := (show Below (w1.heap.size) (w1) _ from (by repeat (first | exact Below.refl _ _ | exact (Qw2).out | refine below_drewN ?_ _ | refine Below.drew ?_ | refine Below.setCell ?_ (by first | omega | (simp; done) | (simp; omega)) _ | refine Below.alloc ?_ (by first | omega | (simp; done) | (simp; omega)) _))).trans (hb.mono (by first | omega | (simp; done) | (simp; omega)))
  have Xw3 : Hid (Below (w1.heap.size + 1) (w1.alloc (.cells #[.string x.ev, .int .i64 x.ver, .int .i64 x.tm, .int .i64 x.n, .int .i64 x.of, .int .i64 x.grid, .slice A1 x.cells.length c1, .bool x.wd, .int .i64 x.before] 48)) w3) := (show Below (w1.heap.size + 1) (w1.alloc (.cells #[.string x.ev, .int .i64 x.ver, .int .i64 x.tm, .int .i64 x.n, .int .i64 x.of, .int .i64 x.grid, .slice A1 x.cells.length c1, .bool x.wd, .int .i64 x.before] 48)) _ from (by repeat (first | exact Below.refl _ _ | exact (Xw2).out | refine below_drewN ?_ _ | refine Below.drew ?_ | refine Below.setCell ?_ (by first | omega | (simp; done) | (simp; omega)) _ | refine Below.alloc ?_ (by first | omega | (simp; done) | (simp; omega)) _))).trans (hb.mono (by first | omega | (simp; done) | (simp; omega)))
  obtain ⟨hcXw3, hfXw3⟩ := bcell Xw3.out
  clear hcXw2 hfXw2
  have hzw3 := hb.size
  try simp at hzw3
  clear hb
  clear l0 l1 l2
  have l0 : w.heap.size < w3.heap.size := by omega
  have l1 : w.heap.size + 1 < w3.heap.size := by omega
  have l2 : w1.heap.size < w3.heap.size := by omega
  clear hcXw3 hfXw3
  go_wp2_with fail
  refine (Print_v a A c _ ta 0 H1.out (HA.out.below (by repeat (first | exact Below.refl _ _ | exact (Hw3).out | refine below_drewN ?_ _ | refine Below.drew ?_ | refine Below.setCell ?_ (by first | omega | (simp; done) | (simp; omega)) _ | refine Below.alloc ?_ (by first | omega | (simp; done) | (simp; omega)) _))) (HR.out.below (by repeat (first | exact Below.refl _ _ | exact (Hw3).out | refine below_drewN ?_ _ | refine Below.drew ?_ | refine Below.setCell ?_ (by first | omega | (simp; done) | (simp; omega)) _ | refine Below.alloc ?_ (by first | omega | (simp; done) | (simp; omega)) _))).rdy).mono ?_
  rintro e w4 ⟨rfl, hb⟩
  have Hw4 : Hid (Below (w.heap.size) (w) w4) := (show Below (w.heap.size) (w) _ from (by repeat (first | exact Below.refl _ _ | exact (Hw3).out | refine below_drewN ?_ _ | refine Below.drew ?_ | refine Below.setCell ?_ (by first | omega | (simp; done) | (simp; omega)) _ | refine Below.alloc ?_ (by first | omega | (simp; done) | (simp; omega)) _))).trans (hb.mono (by first | omega | (simp; done) | (simp; omega)))
  have Pw4 : Hid (Below (w.heap.size + 1 + 1) ((w.alloc (.cells #[.string a.ev, .int .i64 a.ver, .int .i64 a.tm, .int .i64 a.n, .int .i64 a.of, .int .i64 a.grid, .slice A a.cells.length c, .bool a.wd, .int .i64 a.before] 48)).alloc (.cells #[.string a.ev, .int .i64 a.ver, .int .i64 a.tm, .int .i64 a.n, .int .i64 a.of, .int .i64 a.grid, .slice D a.cells.length d, .bool a.wd, .int .i64 a.before] 48)) w4) := (show Below (w.heap.size + 1 + 1) ((w.alloc (.cells #[.string a.ev, .int .i64 a.ver, .int .i64 a.tm, .int .i64 a.n, .int .i64 a.of, .int .i64 a.grid, .slice A a.cells.length c, .bool a.wd, .int .i64 a.before] 48)).alloc (.cells #[.string a.ev, .int .i64 a.ver, .int .i64 a.tm, .int .i64 a.n, .int .i64 a.of, .int .i64 a.grid, .slice D a.cells.length d, .bool a.wd, .int .i64 a.before] 48)) _ from (by repeat (first | exact Below.refl _ _ | exact (Pw3).out | refine below_drewN ?_ _ | refine Below.drew ?_ | refine Below.setCell ?_ (by first | omega | (simp; done) | (simp; omega)) _ | refine Below.alloc ?_ (by first | omega | (simp; done) | (simp; omega)) _))).trans (hb.mono (by first | omega | (simp; done) | (simp; omega)))
  obtain ⟨hcPw4, hfPw4⟩ := bcell Pw4.out
  clear hcPw3 hfPw3
  have hzw4 := hb.size
  try simp at hzw4
  clear hb
  clear l0 l1 l2
  have l0 : w.heap.size < w4.heap.size := by omega
  have l1 : w.heap.size + 1 < w4.heap.size := by omega
  go_wp2_with fail
  refine (Print_v a D d _ ta 0 H2.out (HB.out.below (by repeat (first | exact Below.refl _ _ | exact (Hw4).out | refine below_drewN ?_ _ | refine Below.drew ?_ | refine Below.setCell ?_ (by first | omega | (simp; done) | (simp; omega)) _ | refine Below.alloc ?_ (by first | omega | (simp; done) | (simp; omega)) _))) (HR.out.below (by repeat (first | exact Below.refl _ _ | exact (Hw4).out | refine below_drewN ?_ _ | refine Below.drew ?_ | refine Below.setCell ?_ (by first | omega | (simp; done) | (simp; omega)) _ | refine Below.alloc ?_ (by first | omega | (simp; done) | (simp; omega)) _))).rdy).mono ?_
  rintro e w5 ⟨rfl, hb⟩
  have Hw5 : Hid (Below (w.heap.size) (w) w5) := (show Below (w.heap.size) (w) _ from (by repeat (first | exact Below.refl _ _ | exact (Hw4).out | refine below_drewN ?_ _ | refine Below.drew ?_ | refine Below.setCell ?_ (by first | omega | (simp; done) | (simp; omega)) _ | refine Below.alloc ?_ (by first | omega | (simp; done) | (simp; omega)) _))).trans (hb.mono (by first | omega | (simp; done) | (simp; omega)))
  have Pw5 : Hid (Below (w.heap.size + 1 + 1) ((w.alloc (.cells #[.string a.ev, .int .i64 a.ver, .int .i64 a.tm, .int .i64 a.n, .int .i64 a.of, .int .i64 a.grid, .slice A a.cells.length c, .bool a.wd, .int .i64 a.before] 48)).alloc (.cells #[.string a.ev, .int .i64 a.ver, .int .i64 a.tm, .int .i64 a.n, .int .i64 a.of, .int .i64 a.grid, .slice D a.cells.length d, .bool a.wd, .int .i64 a.before] 48)) w5) := (show Below (w.heap.size + 1 + 1) ((w.alloc (.cells #[.string a.ev, .int .i64 a.ver, .int .i64 a.tm, .int .i64 a.n, .int .i64 a.of, .int .i64 a.grid, .slice A a.cells.length c, .bool a.wd, .int .i64 a.before] 48)).alloc (.cells #[.string a.ev, .int .i64 a.ver, .int .i64 a.tm, .int .i64 a.n, .int .i64 a.of, .int .i64 a.grid, .slice D a.cells.length d, .bool a.wd, .int .i64 a.before] 48)) _ from (by repeat (first | exact Below.refl _ _ | exact (Pw4).out | refine below_drewN ?_ _ | refine Below.drew ?_ | refine Below.setCell ?_ (by first | omega | (simp; done) | (simp; omega)) _ | refine Below.alloc ?_ (by first | omega | (simp; done) | (simp; omega)) _))).trans (hb.mono (by first | omega | (simp; done) | (simp; omega)))
  obtain ⟨hcPw5, hfPw5⟩ := bcell Pw5.out
  clear hcPw4 hfPw4
  have hzw5 := hb.size
  try simp at hzw5
  clear hb
  clear l0 l1
  have l0 : w.heap.size < w5.heap.size := by omega
  have l1 : w.heap.size + 1 < w5.heap.size := by omega
  go_wp2_with fail
  refine (Parse_v ta _ a 0 HP.out HM.out (HR.out.below (by repeat (first | exact Below.refl _ _ | exact (Hw5).out | refine below_drewN ?_ _ | refine Below.drew ?_ | refine Below.setCell ?_ (by first | omega | (simp; done) | (simp; omega)) _ | refine Below.alloc ?_ (by first | omega | (simp; done) | (simp; omega)) _)))).mono ?_
  rintro e w6 ⟨A6, c6, rfl, ho6, hb⟩
  have Hw6 : Hid (Below (w.heap.size) (w) w6) := (show Below (w.heap.size) (w) _ from (by repeat (first | exact Below.refl _ _ | exact (Hw5).out | refine below_drewN ?_ _ | refine Below.drew ?_ | refine Below.setCell ?_ (by first | omega | (simp; done) | (simp; omega)) _ | refine Below.alloc ?_ (by first | omega | (simp; done) | (simp; omega)) _))).trans (hb.mono (by first | omega | (simp; done) | (simp; omega)))
  have Pw6 : Hid (Below (w.heap.size + 1 + 1) ((w.alloc (.cells #[.string a.ev, .int .i64 a.ver, .int .i64 a.tm, .int .i64 a.n, .int .i64 a.of, .int .i64 a.grid, .slice A a.cells.length c, .bool a.wd, .int .i64 a.before] 48)).alloc (.cells #[.string a.ev, .int .i64 a.ver, .int .i64 a.tm, .int .i64 a.n, .int .i64 a.of, .int .i64 a.grid, .slice D a.cells.length d, .bool a.wd, .int .i64 a.before] 48)) w6) := (show Below (w.heap.size + 1 + 1) ((w.alloc (.cells #[.string a.ev, .int .i64 a.ver, .int .i64 a.tm, .int .i64 a.n, .int .i64 a.of, .int .i64 a.grid, .slice A a.cells.length c, .bool a.wd, .int .i64 a.before] 48)).alloc (.cells #[.string a.ev, .int .i64 a.ver, .int .i64 a.tm, .int .i64 a.n, .int .i64 a.of, .int .i64 a.grid, .slice D a.cells.length d, .bool a.wd, .int .i64 a.before] 48)) _ from (by repeat (first | exact Below.refl _ _ | exact (Pw5).out | refine below_drewN ?_ _ | refine Below.drew ?_ | refine Below.setCell ?_ (by first | omega | (simp; done) | (simp; omega)) _ | refine Below.alloc ?_ (by first | omega | (simp; done) | (simp; omega)) _))).trans (hb.mono (by first | omega | (simp; done) | (simp; omega)))
  obtain ⟨hcPw6, hfPw6⟩ := bcell Pw6.out
  clear hcPw5 hfPw5
  have hzw6 := hb.size
  try simp at hzw6
  clear hb
  clear l0 l1
  have l0 : w.heap.size < w6.heap.size := by omega
  have l1 : w.heap.size + 1 < w6.heap.size := by omega
  have HX6 : Hid (AIn w6 a A6 c6) := own_in HEV.out ho6
  clear ho6
  go_wp2_with fail
  refine (Digest_v a A c _ d1 0 HD1.out HK1.out (HA.out.below (by repeat (first | exact Below.refl _ _ | exact (Hw6).out | refine below_drewN ?_ _ | refine Below.drew ?_ | refine Below.setCell ?_ (by first | omega | (simp; done) | (simp; omega)) _ | refine Below.alloc ?_ (by first | omega | (simp; done) | (simp; omega)) _))) (HR.out.below (by repeat (first | exact Below.refl _ _ | exact (Hw6).out | refine below_drewN ?_ _ | refine Below.drew ?_ | refine Below.setCell ?_ (by first | omega | (simp; done) | (simp; omega)) _ | refine Below.alloc ?_ (by first | omega | (simp; done) | (simp; omega)) _))).rdy).mono ?_
  rintro e w7 ⟨rfl, hb⟩
  have Hw7 : Hid (Below (w.heap.size) (w) w7) := (show Below (w.heap.size) (w) _ from (by repeat (first | exact Below.refl _ _ | exact (Hw6).out | refine below_drewN ?_ _ | refine Below.drew ?_ | refine Below.setCell ?_ (by first | omega | (simp; done) | (simp; omega)) _ | refine Below.alloc ?_ (by first | omega | (simp; done) | (simp; omega)) _))).trans (hb.mono (by first | omega | (simp; done) | (simp; omega)))
  have Pw7 : Hid (Below (w.heap.size + 1 + 1) ((w.alloc (.cells #[.string a.ev, .int .i64 a.ver, .int .i64 a.tm, .int .i64 a.n, .int .i64 a.of, .int .i64 a.grid, .slice A a.cells.length c, .bool a.wd, .int .i64 a.before] 48)).alloc (.cells #[.string a.ev, .int .i64 a.ver, .int .i64 a.tm, .int .i64 a.n, .int .i64 a.of, .int .i64 a.grid, .slice D a.cells.length d, .bool a.wd, .int .i64 a.before] 48)) w7) := (show Below (w.heap.size + 1 + 1) ((w.alloc (.cells #[.string a.ev, .int .i64 a.ver, .int .i64 a.tm, .int .i64 a.n, .int .i64 a.of, .int .i64 a.grid, .slice A a.cells.length c, .bool a.wd, .int .i64 a.before] 48)).alloc (.cells #[.string a.ev, .int .i64 a.ver, .int .i64 a.tm, .int .i64 a.n, .int .i64 a.of, .int .i64 a.grid, .slice D a.cells.length d, .bool a.wd, .int .i64 a.before] 48)) _ from (by repeat (first | exact Below.refl _ _ | exact (Pw6).out | refine below_drewN ?_ _ | refine Below.drew ?_ | refine Below.setCell ?_ (by first | omega | (simp; done) | (simp; omega)) _ | refine Below.alloc ?_ (by first | omega | (simp; done) | (simp; omega)) _))).trans (hb.mono (by first | omega | (simp; done) | (simp; omega)))
  obtain ⟨hcPw7, hfPw7⟩ := bcell Pw7.out
  clear hcPw6 hfPw6
  have Rw7 : Hid (Below (w6.heap.size) (w6) w7) := (show Below (w6.heap.size) (w6) _ from (by repeat (first | exact Below.refl _ _ | assumption | refine below_drewN ?_ _ | refine Below.drew ?_ | refine Below.setCell ?_ (by first | omega | (simp; done) | (simp; omega)) _ | refine Below.alloc ?_ (by first | omega | (simp; done) | (simp; omega)) _))).trans (hb.mono (by first | omega | (simp; done) | (simp; omega)))
  have Yw7 : Hid (Below (w6.heap.size + 1) (w6.alloc (.cells #[.string a.ev, .int .i64 a.ver, .int .i64 a.tm, .int .i64 a.n, .int .i64 a.of, .int .i64 a.grid, .slice A6 a.cells.length c6, .bool a.wd, .int .i64 a.before] 48)) w7) := (show Below (w6.heap.size + 1) (w6.alloc (.cells #[.string a.ev, .int .i64 a.ver, .int .i64 a.tm, .int .i64 a.n, .int .i64 a.of, .int .i64 a.grid, .slice A6 a.cells.length c6, .bool a.wd, .int .i64 a.before] 48)) _ from (by repeat (first | exact Below.refl _ _ | assumption | refine below_drewN ?_ _ | refine Below.drew ?_ | refine Below.setCell ?_ (by first | omega | (simp; done) | (simp; omega)) _ | refine Below.alloc ?_ (by first | omega | (simp; done) | (simp; omega)) _))).trans (hb.mono (by first | omega | (simp; done) | (simp; omega)))
  obtain ⟨hcYw7, hfYw7⟩ := bcell Yw7.out
  have hzw7 := hb.size
  try simp at hzw7
  clear hb
  clear l0 l1
  have l0 : w.heap.size < w7.heap.size := by omega
  have l1 : w.heap.size + 1 < w7.heap.size := by omega
  have l2 : w6.heap.size < w7.heap.size := by omega
  go_wp2_with fail
  refine (Digest_v a D d _ d1 0 HD2.out HK2.out (HB.out.below (by repeat (first | exact Below.refl _ _ | exact (Hw7).out | refine below_drewN ?_ _ | refine Below.drew ?_ | refine Below.setCell ?_ (by first | omega | (simp; done) | (simp; omega)) _ | refine Below.alloc ?_ (by first | omega | (simp; done) | (simp; omega)) _))) (HR.out.below (by repeat (first | exact Below.refl _ _ | exact (Hw7).out | refine below_drewN ?_ _ | refine Below.drew ?_ | refine Below.setCell ?_ (by first | omega | (simp; done) | (simp; omega)) _ | refine Below.alloc ?_ (by first | omega | (simp; done) | (simp; omega)) _))).rdy).mono ?_
  rintro e w8 ⟨rfl, hb⟩
  have Hw8 : Hid (Below (w.heap.size) (w) w8) := (show Below (w.heap.size) (w) _ from (by repeat (first | exact Below.refl _ _ | exact (Hw7).out | refine below_drewN ?_ _ | refine Below.drew ?_ | refine Below.setCell ?_ (by first | omega | (simp; done) | (simp; omega)) _ | refine Below.alloc ?_ (by first | omega | (simp; done) | (simp; omega)) _))).trans (hb.mono (by first | omega | (simp; done) | (simp; omega)))
  have Pw8 : Hid (Below (w.heap.size + 1 + 1) ((w.alloc (.cells #[.string a.ev, .int .i64 a.ver, .int .i64 a.tm, .int .i64 a.n, .int .i64 a.of, .int .i64 a.grid, .slice A a.cells.length c, .bool a.wd, .int .i64 a.before] 48)).alloc (.cells #[.string a.ev, .int .i64 a.ver, .int .i64 a.tm, .int .i64 a.n, .int .i64 a.of, .int .i64 a.grid, .slice D a.cells.length d, .bool a.wd, .int .i64 a.before] 48)) w8) := (show Below (w.heap.size + 1 + 1) ((w.alloc (.cells #[.string a.ev, .int .i64 a.ver, .int .i64 a.tm, .int .i64 a.n, .int .i64 a.of, .int .i64 a.grid, .slice A a.cells.length c, .bool a.wd, .int .i64 a.before] 48)).alloc (.cells #[.string a.ev, .int .i64 a.ver, .int .i64 a.tm, .int .i64 a.n, .int .i64 a.of, .int .i64 a.grid, .slice D a.cells.length d, .bool a.wd, .int .i64 a.before] 48)) _ from (by repeat (first | exact Below.refl _ _ | exact (Pw7).out | refine below_drewN ?_ _ | refine Below.drew ?_ | refine Below.setCell ?_ (by first | omega | (simp; done) | (simp; omega)) _ | refine Below.alloc ?_ (by first | omega | (simp; done) | (simp; omega)) _))).trans (hb.mono (by first | omega | (simp; done) | (simp; omega)))
  obtain ⟨hcPw8, hfPw8⟩ := bcell Pw8.out
  clear hcPw7 hfPw7
  have Rw8 : Hid (Below (w6.heap.size) (w6) w8) := (show Below (w6.heap.size) (w6) _ from (by repeat (first | exact Below.refl _ _ | exact (Rw7).out | refine below_drewN ?_ _ | refine Below.drew ?_ | refine Below.setCell ?_ (by first | omega | (simp; done) | (simp; omega)) _ | refine Below.alloc ?_ (by first | omega | (simp; done) | (simp; omega)) _))).trans (hb.mono (by first | omega | (simp; done) | (simp; omega)))
  have Yw8 : Hid (Below (w6.heap.size + 1) (w6.alloc (.cells #[.string a.ev, .int .i64 a.ver, .int .i64 a.tm, .int .i64 a.n, .int .i64 a.of, .int .i64 a.grid, .slice A6 a.cells.length c6, .bool a.wd, .int .i64 a.before] 48)) w8) := (show Below (w6.heap.size + 1) (w6.alloc (.cells #[.string a.ev, .int .i64 a.ver, .int .i64 a.tm, .int .i64 a.n, .int .i64 a.of, .int .i64 a.grid, .slice A6 a.cells.length c6, .bool a.wd, .int .i64 a.before] 48)) _ from (by repeat (first | exact Below.refl _ _ | exact (Yw7).out | refine below_drewN ?_ _ | refine Below.drew ?_ | refine Below.setCell ?_ (by first | omega | (simp; done) | (simp; omega)) _ | refine Below.alloc ?_ (by first | omega | (simp; done) | (simp; omega)) _))).trans (hb.mono (by first | omega | (simp; done) | (simp; omega)))
  obtain ⟨hcYw8, hfYw8⟩ := bcell Yw8.out
  clear hcYw7 hfYw7
  have hzw8 := hb.size
  try simp at hzw8
  clear hb
  clear l0 l1 l2
  have l0 : w.heap.size < w8.heap.size := by omega
  have l1 : w.heap.size + 1 < w8.heap.size := by omega
  have l2 : w6.heap.size < w8.heap.size := by omega
  go_wp2_with fail
  refine (pSame_ a a A c A6 c6 _ (HA.out.below (by repeat (first | exact Below.refl _ _ | exact (Hw8).out | refine below_drewN ?_ _ | refine Below.drew ?_ | refine Below.setCell ?_ (by first | omega | (simp; done) | (simp; omega)) _ | refine Below.alloc ?_ (by first | omega | (simp; done) | (simp; omega)) _))) (HX6.out.below (by repeat (first | exact Below.refl _ _ | exact (Rw8).out | refine below_drewN ?_ _ | refine Below.drew ?_ | refine Below.setCell ?_ (by first | omega | (simp; done) | (simp; omega)) _ | refine Below.alloc ?_ (by first | omega | (simp; done) | (simp; omega)) _))) true (sameB_refl a)).mono ?_
  rintro e w9 ⟨rfl, hb⟩
  have Hw9 : Hid (Below (w.heap.size) (w) w9) := (show Below (w.heap.size) (w) _ from (by repeat (first | exact Below.refl _ _ | exact (Hw8).out | refine below_drewN ?_ _ | refine Below.drew ?_ | refine Below.setCell ?_ (by first | omega | (simp; done) | (simp; omega)) _ | refine Below.alloc ?_ (by first | omega | (simp; done) | (simp; omega)) _))).trans (hb.mono (by first | omega | (simp; done) | (simp; omega)))
  have Pw9 : Hid (Below (w.heap.size + 1 + 1) ((w.alloc (.cells #[.string a.ev, .int .i64 a.ver, .int .i64 a.tm, .int .i64 a.n, .int .i64 a.of, .int .i64 a.grid, .slice A a.cells.length c, .bool a.wd, .int .i64 a.before] 48)).alloc (.cells #[.string a.ev, .int .i64 a.ver, .int .i64 a.tm, .int .i64 a.n, .int .i64 a.of, .int .i64 a.grid, .slice D a.cells.length d, .bool a.wd, .int .i64 a.before] 48)) w9) := (show Below (w.heap.size + 1 + 1) ((w.alloc (.cells #[.string a.ev, .int .i64 a.ver, .int .i64 a.tm, .int .i64 a.n, .int .i64 a.of, .int .i64 a.grid, .slice A a.cells.length c, .bool a.wd, .int .i64 a.before] 48)).alloc (.cells #[.string a.ev, .int .i64 a.ver, .int .i64 a.tm, .int .i64 a.n, .int .i64 a.of, .int .i64 a.grid, .slice D a.cells.length d, .bool a.wd, .int .i64 a.before] 48)) _ from (by repeat (first | exact Below.refl _ _ | exact (Pw8).out | refine below_drewN ?_ _ | refine Below.drew ?_ | refine Below.setCell ?_ (by first | omega | (simp; done) | (simp; omega)) _ | refine Below.alloc ?_ (by first | omega | (simp; done) | (simp; omega)) _))).trans (hb.mono (by first | omega | (simp; done) | (simp; omega)))
  obtain ⟨hcPw9, hfPw9⟩ := bcell Pw9.out
  clear hcPw8 hfPw8
  have Rw9 : Hid (Below (w6.heap.size) (w6) w9) := (show Below (w6.heap.size) (w6) _ from (by repeat (first | exact Below.refl _ _ | exact (Rw8).out | refine below_drewN ?_ _ | refine Below.drew ?_ | refine Below.setCell ?_ (by first | omega | (simp; done) | (simp; omega)) _ | refine Below.alloc ?_ (by first | omega | (simp; done) | (simp; omega)) _))).trans (hb.mono (by first | omega | (simp; done) | (simp; omega)))
  have Yw9 : Hid (Below (w6.heap.size + 1) (w6.alloc (.cells #[.string a.ev, .int .i64 a.ver, .int .i64 a.tm, .int .i64 a.n, .int .i64 a.of, .int .i64 a.grid, .slice A6 a.cells.length c6, .bool a.wd, .int .i64 a.before] 48)) w9) := (show Below (w6.heap.size + 1) (w6.alloc (.cells #[.string a.ev, .int .i64 a.ver, .int .i64 a.tm, .int .i64 a.n, .int .i64 a.of, .int .i64 a.grid, .slice A6 a.cells.length c6, .bool a.wd, .int .i64 a.before] 48)) _ from (by repeat (first | exact Below.refl _ _ | exact (Yw8).out | refine below_drewN ?_ _ | refine Below.drew ?_ | refine Below.setCell ?_ (by first | omega | (simp; done) | (simp; omega)) _ | refine Below.alloc ?_ (by first | omega | (simp; done) | (simp; omega)) _))).trans (hb.mono (by first | omega | (simp; done) | (simp; omega)))
  obtain ⟨hcYw9, hfYw9⟩ := bcell Yw9.out
  clear hcYw8 hfYw8
  have hzw9 := hb.size
  try simp at hzw9
  clear hb
  clear l0 l1 l2
  have l0 : w.heap.size < w9.heap.size := by omega
  have l1 : w.heap.size + 1 < w9.heap.size := by omega
  have l2 : w6.heap.size < w9.heap.size := by omega
  clear hcYw9 hfYw9
  go_wp2_with fail
  refine (pSame_ a a A c D d _ (HA.out.below (by repeat (first | exact Below.refl _ _ | exact (Hw9).out | refine below_drewN ?_ _ | refine Below.drew ?_ | refine Below.setCell ?_ (by first | omega | (simp; done) | (simp; omega)) _ | refine Below.alloc ?_ (by first | omega | (simp; done) | (simp; omega)) _))) (HB.out.below (by repeat (first | exact Below.refl _ _ | exact (Hw9).out | refine below_drewN ?_ _ | refine Below.drew ?_ | refine Below.setCell ?_ (by first | omega | (simp; done) | (simp; omega)) _ | refine Below.alloc ?_ (by first | omega | (simp; done) | (simp; omega)) _))) true (sameB_refl a)).mono ?_
  rintro e w10 ⟨rfl, hb⟩
  have Hw10 : Hid (Below (w.heap.size) (w) w10) := (show Below (w.heap.size) (w) _ from (by repeat (first | exact Below.refl _ _ | exact (Hw9).out | refine below_drewN ?_ _ | refine Below.drew ?_ | refine Below.setCell ?_ (by first | omega | (simp; done) | (simp; omega)) _ | refine Below.alloc ?_ (by first | omega | (simp; done) | (simp; omega)) _))).trans (hb.mono (by first | omega | (simp; done) | (simp; omega)))
  have Pw10 : Hid (Below (w.heap.size + 1 + 1) ((w.alloc (.cells #[.string a.ev, .int .i64 a.ver, .int .i64 a.tm, .int .i64 a.n, .int .i64 a.of, .int .i64 a.grid, .slice A a.cells.length c, .bool a.wd, .int .i64 a.before] 48)).alloc (.cells #[.string a.ev, .int .i64 a.ver, .int .i64 a.tm, .int .i64 a.n, .int .i64 a.of, .int .i64 a.grid, .slice D a.cells.length d, .bool a.wd, .int .i64 a.before] 48)) w10) := (show Below (w.heap.size + 1 + 1) ((w.alloc (.cells #[.string a.ev, .int .i64 a.ver, .int .i64 a.tm, .int .i64 a.n, .int .i64 a.of, .int .i64 a.grid, .slice A a.cells.length c, .bool a.wd, .int .i64 a.before] 48)).alloc (.cells #[.string a.ev, .int .i64 a.ver, .int .i64 a.tm, .int .i64 a.n, .int .i64 a.of, .int .i64 a.grid, .slice D a.cells.length d, .bool a.wd, .int .i64 a.before] 48)) _ from (by repeat (first | exact Below.refl _ _ | exact (Pw9).out | refine below_drewN ?_ _ | refine Below.drew ?_ | refine Below.setCell ?_ (by first | omega | (simp; done) | (simp; omega)) _ | refine Below.alloc ?_ (by first | omega | (simp; done) | (simp; omega)) _))).trans (hb.mono (by first | omega | (simp; done) | (simp; omega)))
  obtain ⟨hcPw10, hfPw10⟩ := bcell Pw10.out
  clear hcPw9 hfPw9
  have hzw10 := hb.size
  try simp at hzw10
  clear hb
  clear l0 l1 l2
  have l0 : w.heap.size < w10.heap.size := by omega
  have l1 : w.heap.size + 1 < w10.heap.size := by omega
  go_wp2_with fail
  refine (works_ _ (HR.out.below (by repeat (first | exact Below.refl _ _ | exact (Hw10).out | refine below_drewN ?_ _ | refine Below.drew ?_ | refine Below.setCell ?_ (by first | omega | (simp; done) | (simp; omega)) _ | refine Below.alloc ?_ (by first | omega | (simp; done) | (simp; omega)) _))).rdy).mono ?_
  rintro e w11 ⟨rfl, hb⟩
  have Hw11 : Hid (Below (w.heap.size) (w) w11) := (show Below (w.heap.size) (w) _ from (by repeat (first | exact Below.refl _ _ | exact (Hw10).out | refine below_drewN ?_ _ | refine Below.drew ?_ | refine Below.setCell ?_ (by first | omega | (simp; done) | (simp; omega)) _ | refine Below.alloc ?_ (by first | omega | (simp; done) | (simp; omega)) _))).trans (hb.mono (by first | omega | (simp; done) | (simp; omega)))
  have Pw11 : Hid (Below (w.heap.size + 1 + 1) ((w.alloc (.cells #[.string a.ev, .int .i64 a.ver, .int .i64 a.tm, .int .i64 a.n, .int .i64 a.of, .int .i64 a.grid, .slice A a.cells.length c, .bool a.wd, .int .i64 a.before] 48)).alloc (.cells #[.string a.ev, .int .i64 a.ver, .int .i64 a.tm, .int .i64 a.n, .int .i64 a.of, .int .i64 a.grid, .slice D a.cells.length d, .bool a.wd, .int .i64 a.before] 48)) w11) := (show Below (w.heap.size + 1 + 1) ((w.alloc (.cells #[.string a.ev, .int .i64 a.ver, .int .i64 a.tm, .int .i64 a.n, .int .i64 a.of, .int .i64 a.grid, .slice A a.cells.length c, .bool a.wd, .int .i64 a.before] 48)).alloc (.cells #[.string a.ev, .int .i64 a.ver, .int .i64 a.tm, .int .i64 a.n, .int .i64 a.of, .int .i64 a.grid, .slice D a.cells.length d, .bool a.wd, .int .i64 a.before] 48)) _ from (by repeat (first | exact Below.refl _ _ | exact (Pw10).out | refine below_drewN ?_ _ | refine Below.drew ?_ | refine Below.setCell ?_ (by first | omega | (simp; done) | (simp; omega)) _ | refine Below.alloc ?_ (by first | omega | (simp; done) | (simp; omega)) _))).trans (hb.mono (by first | omega | (simp; done) | (simp; omega)))
  obtain ⟨hcPw11, hfPw11⟩ := bcell Pw11.out
  clear hcPw10 hfPw10
  have hzw11 := hb.size
  try simp at hzw11
  clear hb
  clear l0 l1
  have l0 : w.heap.size < w11.heap.size := by omega
  have l1 : w.heap.size + 1 < w11.heap.size := by omega
  go_wp2_with fail
  go_ret
  exact ⟨rfl, Hw11.out⟩
set_option maxRecDepth 100000 in
set_option maxHeartbeats 16000000 in
theorem lback_1d (a b x : Alr) (A : Option Addr) (c : Nat) (D : Option Addr) (d : Nat) (s : ByteArray) (w : World) (ha : AIn w a A c) (hb : AIn w b D d) (hs : s.size ≤ maxLen) (hr : RdyP w) (hx : parseR parseB s.data.toList = (x, 0)) (h1 : okA a = true) (h2 : okA b = true) (h3 : ((txS a).toList == (txS b).toList) = false) (h4 : sameB a b = false) :
    Calls Tryz.prog 10 #[a.val A c, b.val D d, .string s] w fun e w' => e = .returned (.bool true) ∧ Below w.heap.size w w' := by
  have HA := Lib.hid ha
  have HB := Lib.hid hb
  have HR := Lib.hid hr
  have HX := Lib.hid hx
  have HS := Lib.hid hs
  have HE := Lib.hid (parse_ev hx)
  have HO := Lib.hid (parse_print hx)
  have q0 : (s.toList == s.toList) = true := by simp
  have H1 := Lib.hid (printR_t h1)
  have HP := Lib.hid (parse_back h1)
  have HM := Lib.hid (txS_max h1)
  have HEV := Lib.hid ha.ev
  have HK1 : Hid (errA (okA a) 101 = 0) := errA_t h1
  obtain ⟨ta, hta⟩ : ∃ t, t = txS a := ⟨_, rfl⟩
  rw [← hta] at H1 HP HM
  have q1 : (ta.toList == ta.toList) = true := by simp
  obtain ⟨d1, hd1⟩ : ∃ d, digE a = d := ⟨_, rfl⟩
  have HD1 := Lib.hid hd1
  have q2 : (d1 == d1) = true := by simp
  have H2 := Lib.hid (printR_t h2)
  have HK2 : Hid (errA (okA b) 101 = 0) := errA_t h2
  obtain ⟨tb, htb⟩ : ∃ t, t = txS b := ⟨_, rfl⟩
  rw [← htb] at H2 h3
  rw [← hta] at h3
  obtain ⟨d2, hd2⟩ : ∃ d, digE b = d := ⟨_, rfl⟩
  have HD2 := Lib.hid hd2
  have HV := Lib.hid h4
  clear hd2 htb h4
  clear hd1 hta
  clear ha hb hr hx hs h1 h2
  go_enter Tryz.func10, Tryz.ntmps10
  go_wp2_with fail
  refine (Parse_v s _ x 0 HX.out HS.out (HR.out.below (by repeat (first | exact Below.refl _ _ | assumption | refine below_drewN ?_ _ | refine Below.drew ?_ | refine Below.setCell ?_ (by first | omega | (simp; done) | (simp; omega)) _ | refine Below.alloc ?_ (by first | omega | (simp; done) | (simp; omega)) _)))).mono ?_
  rintro e w1 ⟨A1, c1, rfl, ho1, hb⟩
  have HX1 : Hid (AIn w1 x A1 c1) := own_in HE.out ho1
  clear ho1
  have Hw1 : Hid (Below (w.heap.size) (w) w1) := (show Below (w.heap.size) (w) _ from (by repeat (first | exact Below.refl _ _ | assumption | refine below_drewN ?_ _ | refine Below.drew ?_ | refine Below.setCell ?_ (by first | omega | (simp; done) | (simp; omega)) _ | refine Below.alloc ?_ (by first | omega | (simp; done) | (simp; omega)) _))).trans (hb.mono (by first | omega | (simp; done) | (simp; omega)))
  have Pw1 : Hid (Below (w.heap.size + 1 + 1) ((w.alloc (.cells #[.string a.ev, .int .i64 a.ver, .int .i64 a.tm, .int .i64 a.n, .int .i64 a.of, .int .i64 a.grid, .slice A a.cells.length c, .bool a.wd, .int .i64 a.before] 48)).alloc (.cells #[.string b.ev, .int .i64 b.ver, .int .i64 b.tm, .int .i64 b.n, .int .i64 b.of, .int .i64 b.grid, .slice D b.cells.length d, .bool b.wd, .int .i64 b.before] 48)) w1) := (show Below (w.heap.size + 1 + 1) ((w.alloc (.cells #[.string a.ev, .int .i64 a.ver, .int .i64 a.tm, .int .i64 a.n, .int .i64 a.of, .int .i64 a.grid, .slice A a.cells.length c, .bool a.wd, .int .i64 a.before] 48)).alloc (.cells #[.string b.ev, .int .i64 b.ver, .int .i64 b.tm, .int .i64 b.n, .int .i64 b.of, .int .i64 b.grid, .slice D b.cells.length d, .bool b.wd, .int .i64 b.before] 48)) _ from (by repeat (first | exact Below.refl _ _ | assumption | refine below_drewN ?_ _ | refine Below.drew ?_ | refine Below.setCell ?_ (by first | omega | (simp; done) | (simp; omega)) _ | refine Below.alloc ?_ (by first | omega | (simp; done) | (simp; omega)) _))).trans (hb.mono (by first | omega | (simp; done) | (simp; omega)))
  obtain ⟨hcPw1, hfPw1⟩ := bcell Pw1.out
  have hzw1 := hb.size
  try simp at hzw1
  clear hb
  have l0 : w.heap.size < w1.heap.size := by omega
  have l1 : w.heap.size + 1 < w1.heap.size := by omega
  go_wp2_with fail
  refine (Print_v x A1 c1 _ s 0 HO.out.2 (HX1.out.below (by repeat (first | exact Below.refl _ _ | assumption | refine below_drewN ?_ _ | refine Below.drew ?_ | refine Below.setCell ?_ (by first | omega | (simp; done) | (simp; omega)) _ | refine Below.alloc ?_ (by first | omega | (simp; done) | (simp; omega)) _))) (HR.out.below (by repeat (first | exact Below.refl _ _ | exact (Hw1).out | refine below_drewN ?_ _ | refine Below.drew ?_ | refine Below.setCell ?_ (by first | omega | (simp; done) | (simp; omega)) _ | refine Below.alloc ?_ (by first | omega | (simp; done) | (simp; omega)) _))).rdy).mono ?_
  rintro e w2 ⟨rfl, hb⟩
  have Hw2 : Hid (Below (w.heap.size) (w) w2) := (show Below (w.heap.size) (w) _ from (by repeat (first | exact Below.refl _ _ | exact (Hw1).out | refine below_drewN ?_ _ | refine Below.drew ?_ | refine Below.setCell ?_ (by first | omega | (simp; done) | (simp; omega)) _ | refine Below.alloc ?_ (by first | omega | (simp; done) | (simp; omega)) _))).trans (hb.mono (by first | omega | (simp; done) | (simp; omega)))
  have Pw2 : Hid (Below (w.heap.size + 1 + 1) ((w.alloc (.cells #[.string a.ev, .int .i64 a.ver, .int .i64 a.tm, .int .i64 a.n, .int .i64 a.of, .int .i64 a.grid, .slice A a.cells.length c, .bool a.wd, .int .i64 a.before] 48)).alloc (.cells #[.string b.ev, .int .i64 b.ver, .int .i64 b.tm, .int .i64 b.n, .int .i64 b.of, .int .i64 b.grid, .slice D b.cells.length d, .bool b.wd, .int .i64 b.before] 48)) w2) := (show Below (w.heap.size + 1 + 1) ((w.alloc (.cells #[.string a.ev, .int .i64 a.ver, .int .i64 a.tm, .int .i64 a.n, .int .i64 a.of, .int .i64 a.grid, .slice A a.cells.length c, .bool a.wd, .int .i64 a.before] 48)).alloc (.cells #[.string b.ev, .int .i64 b.ver, .int .i64 b.tm, .int .i64 b.n, .int .i64 b.of, .int .i64 b.grid, .slice D b.cells.length d, .bool b.wd, .int .i64 b.before] 48)) _ from (by repeat (first | exact Below.refl _ _ | exact (Pw1).out | refine below_drewN ?_ _ | refine Below.drew ?_ | refine Below.setCell ?_ (by first | omega | (simp; done) | (simp; omega)) _ | refine Below.alloc ?_ (by first | omega | (simp; done) | (simp; omega)) _))).trans (hb.mono (by first | omega | (simp; done) | (simp; omega)))
  obtain ⟨hcPw2, hfPw2⟩ := bcell Pw2.out
  clear hcPw1 hfPw1
  have Qw2 : Hid (Below (w1.heap.size) (w1) w2) := (show Below (w1.heap.size) (w1) _ from (by repeat (first | exact Below.refl _ _ | assumption | refine below_drewN ?_ _ | refine Below.drew ?_ | refine Below.setCell ?_ (by first | omega | (simp; done) | (simp; omega)) _ | refine Below.alloc ?_ (by first | omega | (simp; done) | (simp; omega)) _))).trans (hb.mono (by first | omega | (simp; done) | (simp; omega)))
  have Xw2 : Hid (Below (w1.heap.size + 1) (w1.alloc (.cells #[.string x.ev, .int .i64 x.ver, .int .i64 x.tm, .int .i64 x.n, .int .i64 x.of, .int .i64 x.grid, .slice A1 x.cells.length c1, .bool x.wd, .int .i64 x.before] 48)) w2) := (show Below (w1.heap.size + 1) (w1.alloc (.cells #[.string x.ev, .int .i64 x.ver, .int .i64 x.tm, .int .i64 x.n, .int .i64 x.of, .int .i64 x.grid, .slice A1 x.cells.length c1, .bool x.wd, .int .i64 x.before] 48)) _ from (by repeat (first | exact Below.refl _ _ | assumption | refine below_drewN ?_ _ | refine Below.drew ?_ | refine Below.setCell ?_ (by first | omega | (simp; done) | (simp; omega)) _ | refine Below.alloc ?_ (by first | omega | (simp; done) | (simp; omega)) _))).trans (hb.mono (by first | omega | (simp; done) | (simp; omega)))
  obtain ⟨hcXw2, hfXw2⟩ := bcell Xw2.out
  have hzw2 := hb.size
  try simp at hzw2
  clear hb
  clear l0 l1
  have l0 : w.heap.size < w2.heap.size := by omega
  have l1 : w.heap.size + 1 < w2.heap.size := by omega
  have l2 : w1.heap.size < w2.heap.size := by omega
  go_wp2_with fail
  refine (CheckAlert_t x A1 c1 _ HO.out.1 (HX1.out.below (by repeat (first | exact Below.refl _ _ | exact (Qw2).out | refine below_drewN ?_ _ | refine Below.drew ?_ | refine Below.setCell ?_ (by first | omega | (simp; done) | (simp; omega)) _ | refine Below.alloc ?_ (by first | omega | (simp; done) | (simp; omega)) _)))).mono ?_
  rintro e w3 ⟨rfl, hb⟩
  have Hw3 : Hid (Below (w.heap.size) (w) w3) := (show Below (w.heap.size) (w) _ from (by repeat (first | exact Below.refl _ _ | exact (Hw2).out | refine below_drewN ?_ _ | refine Below.drew ?_ | refine Below.setCell ?_ (by first | omega | (simp; done) | (simp; omega)) _ | refine Below.alloc ?_ (by first | omega | (simp; done) | (simp; omega)) _))).trans (hb.mono (by first | omega | (simp; done) | (simp; omega)))
  have Pw3 : Hid (Below (w.heap.size + 1 + 1) ((w.alloc (.cells #[.string a.ev, .int .i64 a.ver, .int .i64 a.tm, .int .i64 a.n, .int .i64 a.of, .int .i64 a.grid, .slice A a.cells.length c, .bool a.wd, .int .i64 a.before] 48)).alloc (.cells #[.string b.ev, .int .i64 b.ver, .int .i64 b.tm, .int .i64 b.n, .int .i64 b.of, .int .i64 b.grid, .slice D b.cells.length d, .bool b.wd, .int .i64 b.before] 48)) w3) := (show Below (w.heap.size + 1 + 1) ((w.alloc (.cells #[.string a.ev, .int .i64 a.ver, .int .i64 a.tm, .int .i64 a.n, .int .i64 a.of, .int .i64 a.grid, .slice A a.cells.length c, .bool a.wd, .int .i64 a.before] 48)).alloc (.cells #[.string b.ev, .int .i64 b.ver, .int .i64 b.tm, .int .i64 b.n, .int .i64 b.of, .int .i64 b.grid, .slice D b.cells.length d, .bool b.wd, .int .i64 b.before] 48)) _ from (by repeat (first | exact Below.refl _ _ | exact (Pw2).out | refine below_drewN ?_ _ | refine Below.drew ?_ | refine Below.setCell ?_ (by first | omega | (simp; done) | (simp; omega)) _ | refine Below.alloc ?_ (by first | omega | (simp; done) | (simp; omega)) _))).trans (hb.mono (by first | omega | (simp; done) | (simp; omega)))
  obtain ⟨hcPw3, hfPw3⟩ := bcell Pw3.out
  clear hcPw2 hfPw2
  have Qw3 : Hid (Below (w1.heap.size) (w1) w3) := (show Below (w1.heap.size) (w1) _ from (by repeat (first | exact Below.refl _ _ | exact (Qw2).out | refine below_drewN ?_ _ | refine Below.drew ?_ | refine Below.setCell ?_ (by first | omega | (simp; done) | (simp; omega)) _ | refine Below.alloc ?_ (by first | omega | (simp; done) | (simp; omega)) _))).trans (hb.mono (by first | omega | (simp; done) | (simp; omega)))
  have Xw3 : Hid (Below (w1.heap.size + 1) (w1.alloc (.cells #[.string x.ev, .int .i64 x.ver, .int .i64 x.tm, .int .i64 x.n, .int .i64 x.of, .int .i64 x.grid, .slice A1 x.cells.length c1, .bool x.wd, .int .i64 x.before] 48)) w3) := (show Below (w1.heap.size + 1) (w1.alloc (.cells #[.string x.ev, .int .i64 x.ver, .int .i64 x.tm, .int .i64 x.n, .int .i64 x.of, .int .i64 x.grid, .slice A1 x.cells.length c1, .bool x.wd, .int .i64 x.before] 48)) _ from (by repeat (first | exact Below.refl _ _ | exact (Xw2).out | refine below_drewN ?_ _ | refine Below.drew ?_ | refine Below.setCell ?_ (by first | omega | (simp; done) | (simp; omega)) _ | refine Below.alloc ?_ (by first | omega | (simp; done) | (simp; omega)) _))).trans (hb.mono (by first | omega | (simp; done) | (simp; omega)))
  obtain ⟨hcXw3, hfXw3⟩ := bcell Xw3.out
  clear hcXw2 hfXw2
  have hzw3 := hb.size
  try simp at hzw3
  clear hb
  clear l0 l1 l2
  have l0 : w.heap.size < w3.heap.size := by omega
  have l1 : w.heap.size + 1 < w3.heap.size := by omega
  have l2 : w1.heap.size < w3.heap.size := by omega
  clear hcXw3 hfXw3
  go_wp2_with fail
  refine (Print_v a A c _ ta 0 H1.out (HA.out.below (by repeat (first | exact Below.refl _ _ | exact (Hw3).out | refine below_drewN ?_ _ | refine Below.drew ?_ | refine Below.setCell ?_ (by first | omega | (simp; done) | (simp; omega)) _ | refine Below.alloc ?_ (by first | omega | (simp; done) | (simp; omega)) _))) (HR.out.below (by repeat (first | exact Below.refl _ _ | exact (Hw3).out | refine below_drewN ?_ _ | refine Below.drew ?_ | refine Below.setCell ?_ (by first | omega | (simp; done) | (simp; omega)) _ | refine Below.alloc ?_ (by first | omega | (simp; done) | (simp; omega)) _))).rdy).mono ?_
  rintro e w4 ⟨rfl, hb⟩
  have Hw4 : Hid (Below (w.heap.size) (w) w4) := (show Below (w.heap.size) (w) _ from (by repeat (first | exact Below.refl _ _ | exact (Hw3).out | refine below_drewN ?_ _ | refine Below.drew ?_ | refine Below.setCell ?_ (by first | omega | (simp; done) | (simp; omega)) _ | refine Below.alloc ?_ (by first | omega | (simp; done) | (simp; omega)) _))).trans (hb.mono (by first | omega | (simp; done) | (simp; omega)))
  have Pw4 : Hid (Below (w.heap.size + 1 + 1) ((w.alloc (.cells #[.string a.ev, .int .i64 a.ver, .int .i64 a.tm, .int .i64 a.n, .int .i64 a.of, .int .i64 a.grid, .slice A a.cells.length c, .bool a.wd, .int .i64 a.before] 48)).alloc (.cells #[.string b.ev, .int .i64 b.ver, .int .i64 b.tm, .int .i64 b.n, .int .i64 b.of, .int .i64 b.grid, .slice D b.cells.length d, .bool b.wd, .int .i64 b.before] 48)) w4) := (show Below (w.heap.size + 1 + 1) ((w.alloc (.cells #[.string a.ev, .int .i64 a.ver, .int .i64 a.tm, .int .i64 a.n, .int .i64 a.of, .int .i64 a.grid, .slice A a.cells.length c, .bool a.wd, .int .i64 a.before] 48)).alloc (.cells #[.string b.ev, .int .i64 b.ver, .int .i64 b.tm, .int .i64 b.n, .int .i64 b.of, .int .i64 b.grid, .slice D b.cells.length d, .bool b.wd, .int .i64 b.before] 48)) _ from (by repeat (first | exact Below.refl _ _ | exact (Pw3).out | refine below_drewN ?_ _ | refine Below.drew ?_ | refine Below.setCell ?_ (by first | omega | (simp; done) | (simp; omega)) _ | refine Below.alloc ?_ (by first | omega | (simp; done) | (simp; omega)) _))).trans (hb.mono (by first | omega | (simp; done) | (simp; omega)))
  obtain ⟨hcPw4, hfPw4⟩ := bcell Pw4.out
  clear hcPw3 hfPw3
  have hzw4 := hb.size
  try simp at hzw4
  clear hb
  clear l0 l1 l2
  have l0 : w.heap.size < w4.heap.size := by omega
  have l1 : w.heap.size + 1 < w4.heap.size := by omega
  go_wp2_with fail
  refine (Print_v b D d _ tb 0 H2.out (HB.out.below (by repeat (first | exact Below.refl _ _ | exact (Hw4).out | refine below_drewN ?_ _ | refine Below.drew ?_ | refine Below.setCell ?_ (by first | omega | (simp; done) | (simp; omega)) _ | refine Below.alloc ?_ (by first | omega | (simp; done) | (simp; omega)) _))) (HR.out.below (by repeat (first | exact Below.refl _ _ | exact (Hw4).out | refine below_drewN ?_ _ | refine Below.drew ?_ | refine Below.setCell ?_ (by first | omega | (simp; done) | (simp; omega)) _ | refine Below.alloc ?_ (by first | omega | (simp; done) | (simp; omega)) _))).rdy).mono ?_
  rintro e w5 ⟨rfl, hb⟩
  have Hw5 : Hid (Below (w.heap.size) (w) w5) := (show Below (w.heap.size) (w) _ from (by repeat (first | exact Below.refl _ _ | exact (Hw4).out | refine below_drewN ?_ _ | refine Below.drew ?_ | refine Below.setCell ?_ (by first | omega | (simp; done) | (simp; omega)) _ | refine Below.alloc ?_ (by first | omega | (simp; done) | (simp; omega)) _))).trans (hb.mono (by first | omega | (simp; done) | (simp; omega)))
  have Pw5 : Hid (Below (w.heap.size + 1 + 1) ((w.alloc (.cells #[.string a.ev, .int .i64 a.ver, .int .i64 a.tm, .int .i64 a.n, .int .i64 a.of, .int .i64 a.grid, .slice A a.cells.length c, .bool a.wd, .int .i64 a.before] 48)).alloc (.cells #[.string b.ev, .int .i64 b.ver, .int .i64 b.tm, .int .i64 b.n, .int .i64 b.of, .int .i64 b.grid, .slice D b.cells.length d, .bool b.wd, .int .i64 b.before] 48)) w5) := (show Below (w.heap.size + 1 + 1) ((w.alloc (.cells #[.string a.ev, .int .i64 a.ver, .int .i64 a.tm, .int .i64 a.n, .int .i64 a.of, .int .i64 a.grid, .slice A a.cells.length c, .bool a.wd, .int .i64 a.before] 48)).alloc (.cells #[.string b.ev, .int .i64 b.ver, .int .i64 b.tm, .int .i64 b.n, .int .i64 b.of, .int .i64 b.grid, .slice D b.cells.length d, .bool b.wd, .int .i64 b.before] 48)) _ from (by repeat (first | exact Below.refl _ _ | exact (Pw4).out | refine below_drewN ?_ _ | refine Below.drew ?_ | refine Below.setCell ?_ (by first | omega | (simp; done) | (simp; omega)) _ | refine Below.alloc ?_ (by first | omega | (simp; done) | (simp; omega)) _))).trans (hb.mono (by first | omega | (simp; done) | (simp; omega)))
  obtain ⟨hcPw5, hfPw5⟩ := bcell Pw5.out
  clear hcPw4 hfPw4
  have hzw5 := hb.size
  try simp at hzw5
  clear hb
  clear l0 l1
  have l0 : w.heap.size < w5.heap.size := by omega
  have l1 : w.heap.size + 1 < w5.heap.size := by omega
  go_wp2_with fail
  refine (Parse_v ta _ a 0 HP.out HM.out (HR.out.below (by repeat (first | exact Below.refl _ _ | exact (Hw5).out | refine below_drewN ?_ _ | refine Below.drew ?_ | refine Below.setCell ?_ (by first | omega | (simp; done) | (simp; omega)) _ | refine Below.alloc ?_ (by first | omega | (simp; done) | (simp; omega)) _)))).mono ?_
  rintro e w6 ⟨A6, c6, rfl, ho6, hb⟩
  have Hw6 : Hid (Below (w.heap.size) (w) w6) := (show Below (w.heap.size) (w) _ from (by repeat (first | exact Below.refl _ _ | exact (Hw5).out | refine below_drewN ?_ _ | refine Below.drew ?_ | refine Below.setCell ?_ (by first | omega | (simp; done) | (simp; omega)) _ | refine Below.alloc ?_ (by first | omega | (simp; done) | (simp; omega)) _))).trans (hb.mono (by first | omega | (simp; done) | (simp; omega)))
  have Pw6 : Hid (Below (w.heap.size + 1 + 1) ((w.alloc (.cells #[.string a.ev, .int .i64 a.ver, .int .i64 a.tm, .int .i64 a.n, .int .i64 a.of, .int .i64 a.grid, .slice A a.cells.length c, .bool a.wd, .int .i64 a.before] 48)).alloc (.cells #[.string b.ev, .int .i64 b.ver, .int .i64 b.tm, .int .i64 b.n, .int .i64 b.of, .int .i64 b.grid, .slice D b.cells.length d, .bool b.wd, .int .i64 b.before] 48)) w6) := (show Below (w.heap.size + 1 + 1) ((w.alloc (.cells #[.string a.ev, .int .i64 a.ver, .int .i64 a.tm, .int .i64 a.n, .int .i64 a.of, .int .i64 a.grid, .slice A a.cells.length c, .bool a.wd, .int .i64 a.before] 48)).alloc (.cells #[.string b.ev, .int .i64 b.ver, .int .i64 b.tm, .int .i64 b.n, .int .i64 b.of, .int .i64 b.grid, .slice D b.cells.length d, .bool b.wd, .int .i64 b.before] 48)) _ from (by repeat (first | exact Below.refl _ _ | exact (Pw5).out | refine below_drewN ?_ _ | refine Below.drew ?_ | refine Below.setCell ?_ (by first | omega | (simp; done) | (simp; omega)) _ | refine Below.alloc ?_ (by first | omega | (simp; done) | (simp; omega)) _))).trans (hb.mono (by first | omega | (simp; done) | (simp; omega)))
  obtain ⟨hcPw6, hfPw6⟩ := bcell Pw6.out
  clear hcPw5 hfPw5
  have hzw6 := hb.size
  try simp at hzw6
  clear hb
  clear l0 l1
  have l0 : w.heap.size < w6.heap.size := by omega
  have l1 : w.heap.size + 1 < w6.heap.size := by omega
  have HX6 : Hid (AIn w6 a A6 c6) := own_in HEV.out ho6
  clear ho6
  go_wp2_with fail
  refine (Digest_v a A c _ d1 0 HD1.out HK1.out (HA.out.below (by repeat (first | exact Below.refl _ _ | exact (Hw6).out | refine below_drewN ?_ _ | refine Below.drew ?_ | refine Below.setCell ?_ (by first | omega | (simp; done) | (simp; omega)) _ | refine Below.alloc ?_ (by first | omega | (simp; done) | (simp; omega)) _))) (HR.out.below (by repeat (first | exact Below.refl _ _ | exact (Hw6).out | refine below_drewN ?_ _ | refine Below.drew ?_ | refine Below.setCell ?_ (by first | omega | (simp; done) | (simp; omega)) _ | refine Below.alloc ?_ (by first | omega | (simp; done) | (simp; omega)) _))).rdy).mono ?_
  rintro e w7 ⟨rfl, hb⟩
  have Hw7 : Hid (Below (w.heap.size) (w) w7) := (show Below (w.heap.size) (w) _ from (by repeat (first | exact Below.refl _ _ | exact (Hw6).out | refine below_drewN ?_ _ | refine Below.drew ?_ | refine Below.setCell ?_ (by first | omega | (simp; done) | (simp; omega)) _ | refine Below.alloc ?_ (by first | omega | (simp; done) | (simp; omega)) _))).trans (hb.mono (by first | omega | (simp; done) | (simp; omega)))
  have Pw7 : Hid (Below (w.heap.size + 1 + 1) ((w.alloc (.cells #[.string a.ev, .int .i64 a.ver, .int .i64 a.tm, .int .i64 a.n, .int .i64 a.of, .int .i64 a.grid, .slice A a.cells.length c, .bool a.wd, .int .i64 a.before] 48)).alloc (.cells #[.string b.ev, .int .i64 b.ver, .int .i64 b.tm, .int .i64 b.n, .int .i64 b.of, .int .i64 b.grid, .slice D b.cells.length d, .bool b.wd, .int .i64 b.before] 48)) w7) := (show Below (w.heap.size + 1 + 1) ((w.alloc (.cells #[.string a.ev, .int .i64 a.ver, .int .i64 a.tm, .int .i64 a.n, .int .i64 a.of, .int .i64 a.grid, .slice A a.cells.length c, .bool a.wd, .int .i64 a.before] 48)).alloc (.cells #[.string b.ev, .int .i64 b.ver, .int .i64 b.tm, .int .i64 b.n, .int .i64 b.of, .int .i64 b.grid, .slice D b.cells.length d, .bool b.wd, .int .i64 b.before] 48)) _ from (by repeat (first | exact Below.refl _ _ | exact (Pw6).out | refine below_drewN ?_ _ | refine Below.drew ?_ | refine Below.setCell ?_ (by first | omega | (simp; done) | (simp; omega)) _ | refine Below.alloc ?_ (by first | omega | (simp; done) | (simp; omega)) _))).trans (hb.mono (by first | omega | (simp; done) | (simp; omega)))
  obtain ⟨hcPw7, hfPw7⟩ := bcell Pw7.out
  clear hcPw6 hfPw6
  have Rw7 : Hid (Below (w6.heap.size) (w6) w7) := (show Below (w6.heap.size) (w6) _ from (by repeat (first | exact Below.refl _ _ | assumption | refine below_drewN ?_ _ | refine Below.drew ?_ | refine Below.setCell ?_ (by first | omega | (simp; done) | (simp; omega)) _ | refine Below.alloc ?_ (by first | omega | (simp; done) | (simp; omega)) _))).trans (hb.mono (by first | omega | (simp; done) | (simp; omega)))
  have Yw7 : Hid (Below (w6.heap.size + 1) (w6.alloc (.cells #[.string a.ev, .int .i64 a.ver, .int .i64 a.tm, .int .i64 a.n, .int .i64 a.of, .int .i64 a.grid, .slice A6 a.cells.length c6, .bool a.wd, .int .i64 a.before] 48)) w7) := (show Below (w6.heap.size + 1) (w6.alloc (.cells #[.string a.ev, .int .i64 a.ver, .int .i64 a.tm, .int .i64 a.n, .int .i64 a.of, .int .i64 a.grid, .slice A6 a.cells.length c6, .bool a.wd, .int .i64 a.before] 48)) _ from (by repeat (first | exact Below.refl _ _ | assumption | refine below_drewN ?_ _ | refine Below.drew ?_ | refine Below.setCell ?_ (by first | omega | (simp; done) | (simp; omega)) _ | refine Below.alloc ?_ (by first | omega | (simp; done) | (simp; omega)) _))).trans (hb.mono (by first | omega | (simp; done) | (simp; omega)))
  obtain ⟨hcYw7, hfYw7⟩ := bcell Yw7.out
  have hzw7 := hb.size
  try simp at hzw7
  clear hb
  clear l0 l1
  have l0 : w.heap.size < w7.heap.size := by omega
  have l1 : w.heap.size + 1 < w7.heap.size := by omega
  have l2 : w6.heap.size < w7.heap.size := by omega
  go_wp2_with fail
  refine (Digest_v b D d _ d2 0 HD2.out HK2.out (HB.out.below (by repeat (first | exact Below.refl _ _ | exact (Hw7).out | refine below_drewN ?_ _ | refine Below.drew ?_ | refine Below.setCell ?_ (by first | omega | (simp; done) | (simp; omega)) _ | refine Below.alloc ?_ (by first | omega | (simp; done) | (simp; omega)) _))) (HR.out.below (by repeat (first | exact Below.refl _ _ | exact (Hw7).out | refine below_drewN ?_ _ | refine Below.drew ?_ | refine Below.setCell ?_ (by first | omega | (simp; done) | (simp; omega)) _ | refine Below.alloc ?_ (by first | omega | (simp; done) | (simp; omega)) _))).rdy).mono ?_
  rintro e w8 ⟨rfl, hb⟩
  have Hw8 : Hid (Below (w.heap.size) (w) w8) := (show Below (w.heap.size) (w) _ from (by repeat (first | exact Below.refl _ _ | exact (Hw7).out | refine below_drewN ?_ _ | refine Below.drew ?_ | refine Below.setCell ?_ (by first | omega | (simp; done) | (simp; omega)) _ | refine Below.alloc ?_ (by first | omega | (simp; done) | (simp; omega)) _))).trans (hb.mono (by first | omega | (simp; done) | (simp; omega)))
  have Pw8 : Hid (Below (w.heap.size + 1 + 1) ((w.alloc (.cells #[.string a.ev, .int .i64 a.ver, .int .i64 a.tm, .int .i64 a.n, .int .i64 a.of, .int .i64 a.grid, .slice A a.cells.length c, .bool a.wd, .int .i64 a.before] 48)).alloc (.cells #[.string b.ev, .int .i64 b.ver, .int .i64 b.tm, .int .i64 b.n, .int .i64 b.of, .int .i64 b.grid, .slice D b.cells.length d, .bool b.wd, .int .i64 b.before] 48)) w8) := (show Below (w.heap.size + 1 + 1) ((w.alloc (.cells #[.string a.ev, .int .i64 a.ver, .int .i64 a.tm, .int .i64 a.n, .int .i64 a.of, .int .i64 a.grid, .slice A a.cells.length c, .bool a.wd, .int .i64 a.before] 48)).alloc (.cells #[.string b.ev, .int .i64 b.ver, .int .i64 b.tm, .int .i64 b.n, .int .i64 b.of, .int .i64 b.grid, .slice D b.cells.length d, .bool b.wd, .int .i64 b.before] 48)) _ from (by repeat (first | exact Below.refl _ _ | exact (Pw7).out | refine below_drewN ?_ _ | refine Below.drew ?_ | refine Below.setCell ?_ (by first | omega | (simp; done) | (simp; omega)) _ | refine Below.alloc ?_ (by first | omega | (simp; done) | (simp; omega)) _))).trans (hb.mono (by first | omega | (simp; done) | (simp; omega)))
  obtain ⟨hcPw8, hfPw8⟩ := bcell Pw8.out
  clear hcPw7 hfPw7
  have Rw8 : Hid (Below (w6.heap.size) (w6) w8) := (show Below (w6.heap.size) (w6) _ from (by repeat (first | exact Below.refl _ _ | exact (Rw7).out | refine below_drewN ?_ _ | refine Below.drew ?_ | refine Below.setCell ?_ (by first | omega | (simp; done) | (simp; omega)) _ | refine Below.alloc ?_ (by first | omega | (simp; done) | (simp; omega)) _))).trans (hb.mono (by first | omega | (simp; done) | (simp; omega)))
  have Yw8 : Hid (Below (w6.heap.size + 1) (w6.alloc (.cells #[.string a.ev, .int .i64 a.ver, .int .i64 a.tm, .int .i64 a.n, .int .i64 a.of, .int .i64 a.grid, .slice A6 a.cells.length c6, .bool a.wd, .int .i64 a.before] 48)) w8) := (show Below (w6.heap.size + 1) (w6.alloc (.cells #[.string a.ev, .int .i64 a.ver, .int .i64 a.tm, .int .i64 a.n, .int .i64 a.of, .int .i64 a.grid, .slice A6 a.cells.length c6, .bool a.wd, .int .i64 a.before] 48)) _ from (by repeat (first | exact Below.refl _ _ | exact (Yw7).out | refine below_drewN ?_ _ | refine Below.drew ?_ | refine Below.setCell ?_ (by first | omega | (simp; done) | (simp; omega)) _ | refine Below.alloc ?_ (by first | omega | (simp; done) | (simp; omega)) _))).trans (hb.mono (by first | omega | (simp; done) | (simp; omega)))
  obtain ⟨hcYw8, hfYw8⟩ := bcell Yw8.out
  clear hcYw7 hfYw7
  have hzw8 := hb.size
  try simp at hzw8
  clear hb
  clear l0 l1 l2
  have l0 : w.heap.size < w8.heap.size := by omega
  have l1 : w.heap.size + 1 < w8.heap.size := by omega
  have l2 : w6.heap.size < w8.heap.size := by omega
  go_wp2_with fail
  refine (pSame_ a a A c A6 c6 _ (HA.out.below (by repeat (first | exact Below.refl _ _ | exact (Hw8).out | refine below_drewN ?_ _ | refine Below.drew ?_ | refine Below.setCell ?_ (by first | omega | (simp; done) | (simp; omega)) _ | refine Below.alloc ?_ (by first | omega | (simp; done) | (simp; omega)) _))) (HX6.out.below (by repeat (first | exact Below.refl _ _ | exact (Rw8).out | refine below_drewN ?_ _ | refine Below.drew ?_ | refine Below.setCell ?_ (by first | omega | (simp; done) | (simp; omega)) _ | refine Below.alloc ?_ (by first | omega | (simp; done) | (simp; omega)) _))) true (sameB_refl a)).mono ?_
  rintro e w9 ⟨rfl, hb⟩
  have Hw9 : Hid (Below (w.heap.size) (w) w9) := (show Below (w.heap.size) (w) _ from (by repeat (first | exact Below.refl _ _ | exact (Hw8).out | refine below_drewN ?_ _ | refine Below.drew ?_ | refine Below.setCell ?_ (by first | omega | (simp; done) | (simp; omega)) _ | refine Below.alloc ?_ (by first | omega | (simp; done) | (simp; omega)) _))).trans (hb.mono (by first | omega | (simp; done) | (simp; omega)))
  have Pw9 : Hid (Below (w.heap.size + 1 + 1) ((w.alloc (.cells #[.string a.ev, .int .i64 a.ver, .int .i64 a.tm, .int .i64 a.n, .int .i64 a.of, .int .i64 a.grid, .slice A a.cells.length c, .bool a.wd, .int .i64 a.before] 48)).alloc (.cells #[.string b.ev, .int .i64 b.ver, .int .i64 b.tm, .int .i64 b.n, .int .i64 b.of, .int .i64 b.grid, .slice D b.cells.length d, .bool b.wd, .int .i64 b.before] 48)) w9) := (show Below (w.heap.size + 1 + 1) ((w.alloc (.cells #[.string a.ev, .int .i64 a.ver, .int .i64 a.tm, .int .i64 a.n, .int .i64 a.of, .int .i64 a.grid, .slice A a.cells.length c, .bool a.wd, .int .i64 a.before] 48)).alloc (.cells #[.string b.ev, .int .i64 b.ver, .int .i64 b.tm, .int .i64 b.n, .int .i64 b.of, .int .i64 b.grid, .slice D b.cells.length d, .bool b.wd, .int .i64 b.before] 48)) _ from (by repeat (first | exact Below.refl _ _ | exact (Pw8).out | refine below_drewN ?_ _ | refine Below.drew ?_ | refine Below.setCell ?_ (by first | omega | (simp; done) | (simp; omega)) _ | refine Below.alloc ?_ (by first | omega | (simp; done) | (simp; omega)) _))).trans (hb.mono (by first | omega | (simp; done) | (simp; omega)))
  obtain ⟨hcPw9, hfPw9⟩ := bcell Pw9.out
  clear hcPw8 hfPw8
  have Rw9 : Hid (Below (w6.heap.size) (w6) w9) := (show Below (w6.heap.size) (w6) _ from (by repeat (first | exact Below.refl _ _ | exact (Rw8).out | refine below_drewN ?_ _ | refine Below.drew ?_ | refine Below.setCell ?_ (by first | omega | (simp; done) | (simp; omega)) _ | refine Below.alloc ?_ (by first | omega | (simp; done) | (simp; omega)) _))).trans (hb.mono (by first | omega | (simp; done) | (simp; omega)))
  have Yw9 : Hid (Below (w6.heap.size + 1) (w6.alloc (.cells #[.string a.ev, .int .i64 a.ver, .int .i64 a.tm, .int .i64 a.n, .int .i64 a.of, .int .i64 a.grid, .slice A6 a.cells.length c6, .bool a.wd, .int .i64 a.before] 48)) w9) := (show Below (w6.heap.size + 1) (w6.alloc (.cells #[.string a.ev, .int .i64 a.ver, .int .i64 a.tm, .int .i64 a.n, .int .i64 a.of, .int .i64 a.grid, .slice A6 a.cells.length c6, .bool a.wd, .int .i64 a.before] 48)) _ from (by repeat (first | exact Below.refl _ _ | exact (Yw8).out | refine below_drewN ?_ _ | refine Below.drew ?_ | refine Below.setCell ?_ (by first | omega | (simp; done) | (simp; omega)) _ | refine Below.alloc ?_ (by first | omega | (simp; done) | (simp; omega)) _))).trans (hb.mono (by first | omega | (simp; done) | (simp; omega)))
  obtain ⟨hcYw9, hfYw9⟩ := bcell Yw9.out
  clear hcYw8 hfYw8
  have hzw9 := hb.size
  try simp at hzw9
  clear hb
  clear l0 l1 l2
  have l0 : w.heap.size < w9.heap.size := by omega
  have l1 : w.heap.size + 1 < w9.heap.size := by omega
  have l2 : w6.heap.size < w9.heap.size := by omega
  clear hcYw9 hfYw9
  go_wp2_with fail
  refine (pSame_ a b A c D d _ (HA.out.below (by repeat (first | exact Below.refl _ _ | exact (Hw9).out | refine below_drewN ?_ _ | refine Below.drew ?_ | refine Below.setCell ?_ (by first | omega | (simp; done) | (simp; omega)) _ | refine Below.alloc ?_ (by first | omega | (simp; done) | (simp; omega)) _))) (HB.out.below (by repeat (first | exact Below.refl _ _ | exact (Hw9).out | refine below_drewN ?_ _ | refine Below.drew ?_ | refine Below.setCell ?_ (by first | omega | (simp; done) | (simp; omega)) _ | refine Below.alloc ?_ (by first | omega | (simp; done) | (simp; omega)) _))) false HV.out).mono ?_
  rintro e w10 ⟨rfl, hb⟩
  have Hw10 : Hid (Below (w.heap.size) (w) w10) := (show Below (w.heap.size) (w) _ from (by repeat (first | exact Below.refl _ _ | exact (Hw9).out | refine below_drewN ?_ _ | refine Below.drew ?_ | refine Below.setCell ?_ (by first | omega | (simp; done) | (simp; omega)) _ | refine Below.alloc ?_ (by first | omega | (simp; done) | (simp; omega)) _))).trans (hb.mono (by first | omega | (simp; done) | (simp; omega)))
  have Pw10 : Hid (Below (w.heap.size + 1 + 1) ((w.alloc (.cells #[.string a.ev, .int .i64 a.ver, .int .i64 a.tm, .int .i64 a.n, .int .i64 a.of, .int .i64 a.grid, .slice A a.cells.length c, .bool a.wd, .int .i64 a.before] 48)).alloc (.cells #[.string b.ev, .int .i64 b.ver, .int .i64 b.tm, .int .i64 b.n, .int .i64 b.of, .int .i64 b.grid, .slice D b.cells.length d, .bool b.wd, .int .i64 b.before] 48)) w10) := (show Below (w.heap.size + 1 + 1) ((w.alloc (.cells #[.string a.ev, .int .i64 a.ver, .int .i64 a.tm, .int .i64 a.n, .int .i64 a.of, .int .i64 a.grid, .slice A a.cells.length c, .bool a.wd, .int .i64 a.before] 48)).alloc (.cells #[.string b.ev, .int .i64 b.ver, .int .i64 b.tm, .int .i64 b.n, .int .i64 b.of, .int .i64 b.grid, .slice D b.cells.length d, .bool b.wd, .int .i64 b.before] 48)) _ from (by repeat (first | exact Below.refl _ _ | exact (Pw9).out | refine below_drewN ?_ _ | refine Below.drew ?_ | refine Below.setCell ?_ (by first | omega | (simp; done) | (simp; omega)) _ | refine Below.alloc ?_ (by first | omega | (simp; done) | (simp; omega)) _))).trans (hb.mono (by first | omega | (simp; done) | (simp; omega)))
  obtain ⟨hcPw10, hfPw10⟩ := bcell Pw10.out
  clear hcPw9 hfPw9
  have hzw10 := hb.size
  try simp at hzw10
  clear hb
  clear l0 l1 l2
  have l0 : w.heap.size < w10.heap.size := by omega
  have l1 : w.heap.size + 1 < w10.heap.size := by omega
  go_wp2_with fail
  refine (works_ _ (HR.out.below (by repeat (first | exact Below.refl _ _ | exact (Hw10).out | refine below_drewN ?_ _ | refine Below.drew ?_ | refine Below.setCell ?_ (by first | omega | (simp; done) | (simp; omega)) _ | refine Below.alloc ?_ (by first | omega | (simp; done) | (simp; omega)) _))).rdy).mono ?_
  rintro e w11 ⟨rfl, hb⟩
  have Hw11 : Hid (Below (w.heap.size) (w) w11) := (show Below (w.heap.size) (w) _ from (by repeat (first | exact Below.refl _ _ | exact (Hw10).out | refine below_drewN ?_ _ | refine Below.drew ?_ | refine Below.setCell ?_ (by first | omega | (simp; done) | (simp; omega)) _ | refine Below.alloc ?_ (by first | omega | (simp; done) | (simp; omega)) _))).trans (hb.mono (by first | omega | (simp; done) | (simp; omega)))
  have Pw11 : Hid (Below (w.heap.size + 1 + 1) ((w.alloc (.cells #[.string a.ev, .int .i64 a.ver, .int .i64 a.tm, .int .i64 a.n, .int .i64 a.of, .int .i64 a.grid, .slice A a.cells.length c, .bool a.wd, .int .i64 a.before] 48)).alloc (.cells #[.string b.ev, .int .i64 b.ver, .int .i64 b.tm, .int .i64 b.n, .int .i64 b.of, .int .i64 b.grid, .slice D b.cells.length d, .bool b.wd, .int .i64 b.before] 48)) w11) := (show Below (w.heap.size + 1 + 1) ((w.alloc (.cells #[.string a.ev, .int .i64 a.ver, .int .i64 a.tm, .int .i64 a.n, .int .i64 a.of, .int .i64 a.grid, .slice A a.cells.length c, .bool a.wd, .int .i64 a.before] 48)).alloc (.cells #[.string b.ev, .int .i64 b.ver, .int .i64 b.tm, .int .i64 b.n, .int .i64 b.of, .int .i64 b.grid, .slice D b.cells.length d, .bool b.wd, .int .i64 b.before] 48)) _ from (by repeat (first | exact Below.refl _ _ | exact (Pw10).out | refine below_drewN ?_ _ | refine Below.drew ?_ | refine Below.setCell ?_ (by first | omega | (simp; done) | (simp; omega)) _ | refine Below.alloc ?_ (by first | omega | (simp; done) | (simp; omega)) _))).trans (hb.mono (by first | omega | (simp; done) | (simp; omega)))
  obtain ⟨hcPw11, hfPw11⟩ := bcell Pw11.out
  clear hcPw10 hfPw10
  have hzw11 := hb.size
  try simp at hzw11
  clear hb
  clear l0 l1
  have l0 : w.heap.size < w11.heap.size := by omega
  have l1 : w.heap.size + 1 < w11.heap.size := by omega
  go_wp2_with fail
  go_ret
  exact ⟨rfl, Hw11.out⟩
theorem lback_ (a b : Alr) (A : Option Addr) (c : Nat) (D : Option Addr) (d : Nat) (s : ByteArray) (w : World) (ha : AIn w a A c) (hb : AIn w b D d) (hs : s.size ≤ maxLen) (hr : RdyP w) :
    Calls Tryz.prog 10 #[a.val A c, b.val D d, .string s] w fun e w' => e = .returned (.bool true) ∧ Below w.heap.size w w' := by
  obtain ⟨x, k, hx⟩ : ∃ x k, parseR parseB s.data.toList = (x, k) := ⟨_, _, rfl⟩
  obtain ⟨t, kb, ht⟩ : ∃ t k, printR b = (t, k) := ⟨_, _, rfl⟩
  by_cases hk : k = 0
  · subst hk
    cases h1 : okA a with
    | false => exact lback_1n a b x A c D d s w ha hb hs hr hx h1 t kb ht
    | true =>
      cases h2 : okA b with
      | false => exact lback_1t a b x A c D d s w ha hb hs hr hx h1 h2
      | true =>
        by_cases h3 : textL a = textL b
        · obtain rfl := text_inj h1 h2 h3
          exact lback_1e a x A c D d s w ha hb hs hr hx h1
        · exact lback_1d a b x A c D d s w ha hb hs hr hx h1 h2 (text_ne h3) (same_ne h3)
  · have hk' : (k == 0) = false := by simpa using hk
    cases h1 : okA a with
    | false => exact lback_0n a b x A c D d s w ha hb hs hr k hk' hx h1 t kb ht
    | true =>
      cases h2 : okA b with
      | false => exact lback_0t a b x A c D d s w ha hb hs hr k hk' hx h1 h2
      | true =>
        by_cases h3 : textL a = textL b
        · obtain rfl := text_inj h1 h2 h3
          exact lback_0e a x A c D d s w ha hb hs hr k hk' hx h1
        · exact lback_0d a b x A c D d s w ha hb hs hr k hk' hx h1 h2 (text_ne h3) (same_ne h3)
end Go.Proofs.YtohfofecbdfkgaaGreatDoor
