/-
  The walks of CheckAlert, of Print where it refuses, and of the specification's Print and Digest; Parse for every text.
-/
import Derived.Test.YtmpbhngjkbidcaaGreatDoorW42
import Derived.Test.YtmpbhngjkbidcaaGreatDoorW41
import Derived.Test.YtmpbhngjkbidcaaGreatDoorW43
import Derived.Test.YtmpbhngjkbidcaaGreatDoorW19
import Derived.Test.YtmpbhngjkbidcaaGreatDoorW23
import Derived.Test.YtmpbhngjkbidcaaGreatDoorW40
namespace Go.Proofs.YtmpbhngjkbidcaaGreatDoor
open Go.RowKit Al
theorem Print_f (a : Alr) (A : Option Addr) (c : Nat) (w : World) (hk : okA a = false) (h : AIn w a A c) :
    Calls Tryz.prog 22 #[a.val A c] w fun e w' => e = .returned (.tuple #[.string ⟨#[]⟩, .int .i64 101]) ∧ Below w.heap.size w w' := by
  have HS := Lib.hid h
  have HK := Lib.hid hk
  clear h hk
  go_enter Tryz.func22, Tryz.ntmps22
  go_wp2_with fail
  refine (validA_is a A c _ false HK.out (HS.out.below (by (repeat (first | exact Below.refl _ _ | assumption | refine below_drewN ?_ _ | refine Below.drew ?_ | refine Below.setCell ?_ (by first | omega | (simp; done) | (simp; omega)) _ | refine Below.alloc ?_ (by first | omega | (simp; done) | (simp; omega)) _))))).mono ?_
  rintro e w1 ⟨rfl, hb⟩
  obtain ⟨hcw1, hfw1⟩ := bcell hb
  have Hw1 := Lib.hid ((show Below w.heap.size w _ from (by repeat (first | exact Below.refl _ _ | assumption | refine below_drewN ?_ _ | refine Below.drew ?_ | refine Below.setCell ?_ (by first | omega | (simp; done) | (simp; omega)) _ | refine Below.alloc ?_ (by first | omega | (simp; done) | (simp; omega)) _))).trans (hb.mono (by first | omega | (simp; done) | (simp; omega))))
  have hzw1 := hb.size
  try simp at hzw1
  clear hb
  go_wp2_with fail
  go_ret2
  exact ⟨rfl, Hw1.out⟩
/-- What Print gives: the text and the error. -/
def printR (a : Alr) : ByteArray × Int := if okA a then (⟨(textL a).toArray⟩, 0) else (⟨#[]⟩, 101)
theorem Print_v (a : Alr) (A : Option Addr) (c : Nat) (w : World) (t : ByteArray) (k : Int) (hk : printR a = (t, k)) (h : AIn w a A c) (hr : Rdy w) :
    Calls Tryz.prog 22 #[a.val A c] w fun e w' => e = .returned (.tuple #[.string t, .int .i64 k]) ∧ Below w.heap.size w w' := by
  unfold printR at hk
  cases ho : okA a with
  | true => rw [ho] at hk; cases hk; exact Print_t a A c w ho h hr
  | false => rw [ho] at hk; cases hk; exact Print_f a A c w ho h
theorem Digest_v (a : Alr) (A : Option Addr) (c : Nat) (w : World) (d k : Int) (hd : digE a = d) (hk : errA (okA a) 101 = k) (h : AIn w a A c) (hr : Rdy w) :
    Calls Tryz.prog 83 #[a.val A c] w fun e w' => e = .returned (.tuple #[.int .i64 d, .int .i64 k]) ∧ Below w.heap.size w w' := by
  subst hd hk
  exact Digest_ a A c w h hr
/-- Parse, of every text, on both sides. -/
theorem Parse_v (s : ByteArray) (w : World) (x : Alr) (k : Int) (hv : parseR parseB s.data.toList = (x, k)) (hm : s.size ≤ maxLen) (hr : RdyP w) : Calls Tryz.prog 23 #[.string s] w (OwnT w.heap.size x k w) := by
  have hv2 := (parse_same s.data.toList).trans hv
  by_cases hs : s.size ≤ 65536
  · have := Parse_t s w hs hr
    rw [hv2] at this
    exact this
  · have := Parse_long s w (by omega) hm
    rw [hv2] at this
    exact this
theorem parse_ev {s : ByteArray} {x : Alr} {k : Int} (hv : parseR parseB s.data.toList = (x, k)) : x.ev.size ≤ maxLen := by
  unfold parseR at hv
  split at hv
  · cases hv; decide
  · split at hv
    · cases hv
      rename_i hs _
      refine Nat.le_trans (wordB_short s.data.toList 0 1) ?_
      unfold maxLen
      omega
    · cases hv; decide
end Go.Proofs.YtmpbhngjkbidcaaGreatDoor

/-
  What Print writes of an alert, Parse reads again.
-/
namespace Go.Proofs.YtmpbhngjkbidcaaGreatDoor
open Go.RowKit Al

theorem textL_short {a : Alr} (h : AlGood a) : (textL a).length ≤ 65536 := by
  rw [textL_pre]
  have l1 := itoa_len h.ver.1 h.ver.2
  have l2 := itoa_len h.tm.1 h.tm.2
  have l3 := itoa_len h.n.1 h.n.2
  have l4 := itoa_len h.of.1 h.of.2
  have l5 := itoa_len h.grid.1 h.grid.2
  have l6 := itoa_len h.before.1 h.before.2
  have l7 := h.many
  have l8 : a.ev.data.toList.length ≤ 16 := by have := h.ev; rw [Array.length_toList]; exact this
  have l9 : (whereL a).length ≤ 9 + 11 * a.cells.length := by
    unfold whereL
    split
    · simp
    · have := rowL_len (w := [99, 101, 108, 108, 115]) h.cells
      simp at this
      omega
  unfold preL
  simp only [List.length_append, List.length_cons, List.length_nil]
  omega
/-- The text of an alert, as a string. -/
def txS (a : Alr) : ByteArray := ⟨(textL a).toArray⟩
theorem txS_list (a : Alr) : (txS a).data.toList = textL a := rfl
theorem printR_t {a : Alr} (h : okA a = true) : printR a = (txS a, 0) := by unfold printR; rw [if_pos h]; rfl
theorem txS_max {a : Alr} (h : okA a = true) : (txS a).size ≤ maxLen := by
  have h1 := textL_short (okA_good h)
  have h2 : (txS a).size = (textL a).length := by rw [← txS_list, Array.length_toList]; rfl
  unfold maxLen
  omega
/-- What was printed parses to the alert. -/
theorem parse_back {a : Alr} (h : okA a = true) : parseR parseB (txS a).data.toList = (a, 0) := by
  have h1 := textL_short (okA_good h)
  rw [txS_list]
  unfold parseR
  rw [if_neg (by omega), parseB_text h, if_pos ⟨h, rfl⟩]
end Go.Proofs.YtmpbhngjkbidcaaGreatDoor
