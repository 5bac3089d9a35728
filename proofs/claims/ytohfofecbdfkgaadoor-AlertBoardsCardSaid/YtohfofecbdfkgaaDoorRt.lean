/-
  The walk of the specification's 'text'.
-/
import Derived.Test.YtohfofecbdfkgaaDoorLn
import Derived.Deep.DeepCutAuto
namespace Go.Proofs.YtohfofecbdfkgaaDoor
open Go.RowKit Al

def CutRel (a : Alr) (W : World) (s : Value) (wx : World) : Prop := ∃ (t : ByteArray) (n : Nat), s = .string t ∧ Hid (t.data.toList = preL a) ∧ t.size ≤ 8192 ∧ wx = W.drewN n
def RtRel (a : Alr) (word : List UInt8) (s i : Value) : Prop := ∃ (k : Nat) (t : ByteArray), k ≤ a.cells.length ∧ s = .string t ∧ i = .int .i64 k ∧ t.size ≤ 8201 + 11 * k ∧ Hid (t.data.toList = preL a ++ rowL word (a.cells.take k))

theorem rt_next {a : Alr} {word : List UInt8} {k : Nat} {r : ByteArray} (h : k < a.cells.length) (hr : Hid (r.data.toList = preL a ++ rowL word (a.cells.take k))) :
    Hid ((r ++ (⟨#[32]⟩ : ByteArray) ++ ⟨(Lib.itoa a.cells[k]).toArray⟩).data.toList = preL a ++ rowL word (a.cells.take (k + 1))) := by
  show _ = _
  rw [str_add, str_add, hr.out, take_snoc h, rowL_snoc]
  simp
theorem rt_size {r : ByteArray} {k : Nat} {l : List UInt8} (h : r.size ≤ 8201 + 11 * k) (hl : l.length ≤ 10) : (r ++ (⟨#[32]⟩ : ByteArray) ++ ⟨l.toArray⟩).size ≤ 8201 + 11 * (k + 1) := by
  have e : (⟨l.toArray⟩ : ByteArray).size = l.length := by simp [ByteArray.size_mk']
  rw [ByteArray.size_append, ByteArray.size_append, show (⟨#[32]⟩ : ByteArray).size = 1 from rfl, e]
  omega
theorem rt_end {a : Alr} {word : List UInt8} {r : ByteArray} (hw : whereL a = rowL word a.cells) (hr : Hid (r.data.toList = preL a ++ rowL word (a.cells.take a.cells.length))) :
    (r ++ (⟨#[10, 98, 101, 102, 111, 114, 101, 32]⟩ : ByteArray) ++ ⟨(Lib.itoa a.before).toArray⟩ ++ (⟨#[10, 101, 110, 100, 10]⟩ : ByteArray)).data.toList = textL a := by
  rw [str_add, str_add, str_add, hr.out, List.take_of_length_le (Nat.le_refl _), textL_pre, hw]
  simp
set_option maxRecDepth 100000 in
set_option maxHeartbeats 4000000 in
theorem rtext_ (a : Alr) (A : Option Addr) (c B : Nat) (w : World) (hg : AlGood a) (h : Sl w B 1 A a.cells.length c (ints a.cells)) (hB : B ≤ w.heap.size) :
    Calls Tryd.prog 82 #[a.val A c] w fun e w' => e = .returned (.string ⟨(textL a).toArray⟩) ∧ Below w.heap.size w w' := by
  have hev := hg.ev
  have l1 := itoa_len hg.ver.1 hg.ver.2
  have l2 := itoa_len hg.tm.1 hg.tm.2
  have l3 := itoa_len hg.n.1 hg.n.2
  have l4 := itoa_len hg.of.1 hg.of.2
  have l5 := itoa_len hg.grid.1 hg.grid.2
  have l6 := itoa_len hg.before.1 hg.before.2
  have hmany := hg.many
  obtain ⟨v1, v2⟩ := hg.ver
  obtain ⟨v3, v4⟩ := hg.tm
  obtain ⟨v5, v6⟩ := hg.n
  obtain ⟨v7, v8⟩ := hg.of
  obtain ⟨v9, v10⟩ := hg.grid
  obtain ⟨v11, v12⟩ := hg.before
  have HG := Lib.hid hg
  have HS := Lib.hid h
  clear hg h
  go_enter Tryd.func82, Tryd.ntmps82
  go_upto_region 1 with fail
  go_cut [3] (fun s wx => CutRel a (w.alloc (.cells (a.val A c).cells 29)) s wx)
  case first =>
    go_quiet ((go_at_call 99; exact quiet0 (decimal_ _ (by assumption) (by assumption) _)))
    go_wp2
    go_meet
    case rel => exact ⟨_, _, rfl, by show _ = _; simp [preL, ByteArray.data_append], by simp [ByteArray.size_append, ByteArray.size_mk']; omega, rfl⟩
  case rest =>
    obtain ⟨t, n, rfl, hp, hsz, rfl⟩ := hcut
    by_cases hw : a.wd = true
    · have HW := Lib.hid hw
      go_wp2
      go_loop [3, 4] (fun s i => RtRel a [119, 105, 116, 104, 100, 114, 97, 119, 110] s i) (fun _ i => a.cells.length - (intOf i).toNat)
      case atStart => exact ⟨0, _, Nat.zero_le _, rfl, rfl, by simp [ByteArray.size_append, ByteArray.size_mk']; omega, by show _ = _; rw [str_add, hp.out, List.take_zero, rowL_nil]⟩
      case round =>
        obtain ⟨k, r, hk, rfl, rfl, hrz, hr⟩ := hrel
        by_cases hlt : k < a.cells.length
        · obtain ⟨b, off, rfl, hbb, hc⟩ := HS.out.int_at hlt hlt
          have hc1 : b < w.heap.size := by omega
          obtain ⟨w1, w2⟩ := HG.out.cells a.cells[k] (List.getElem_mem hlt)
          have lk := itoa_len w1 w2
          have hlt' : (k : Int) < (a.cells.length : Int) := by omega
          have HN := Lib.hid (rt_next hlt hr)
          go_wp2_with (go_at_call 99; refine (decimal_ _ w1 w2 _).mono ?_; rintro e w' ⟨rfl, rfl⟩)
          go_round
          case rel => (first | exact ⟨k + 1, _, by omega, rfl, by go_num, rt_size hrz lk, HN.out⟩ | ((repeat apply Exists.intro); refine ⟨⟨k + 1, _, by omega, rfl, by go_num, rt_size hrz lk, HN.out⟩, ?_⟩; (repeat refine ⟨rfl, ?_⟩); exact rfl))
          case measure => simp [intOf]; omega
        · obtain rfl : k = a.cells.length := by omega
          have HF := Lib.hid (rt_end (a := a) (word := [119, 105, 116, 104, 100, 114, 97, 119, 110]) (by rw [whereL_t HW.out, HG.out.wd HW.out, rowL_nil]) hr)
          go_wp2_with (go_at_call 99; refine (decimal_ _ v11 v12 _).mono ?_; rintro e w' ⟨rfl, rfl⟩)
          go_ret
          exact ⟨ret_str (bytes_eq HF.out), (by repeat (first | exact Below.refl _ _ | assumption | refine below_drewN ?_ _ | refine Below.drew ?_ | refine Below.setCell ?_ (by first | omega | (simp; done) | (simp; omega)) _ | refine Below.alloc ?_ (by first | omega | (simp; done) | (simp; omega)) _))⟩
    · have hw' : a.wd = false := by simpa using hw
      have HW := Lib.hid hw
      clear hw
      go_wp2
      go_loop [3, 4] (fun s i => RtRel a [99, 101, 108, 108, 115] s i) (fun _ i => a.cells.length - (intOf i).toNat)
      case atStart => exact ⟨0, _, Nat.zero_le _, rfl, rfl, by simp [ByteArray.size_append, ByteArray.size_mk']; omega, by show _ = _; rw [str_add, hp.out, List.take_zero, rowL_nil]⟩
      case round =>
        obtain ⟨k, r, hk, rfl, rfl, hrz, hr⟩ := hrel
        by_cases hlt : k < a.cells.length
        · obtain ⟨b, off, rfl, hbb, hc⟩ := HS.out.int_at hlt hlt
          have hc1 : b < w.heap.size := by omega
          obtain ⟨w1, w2⟩ := HG.out.cells a.cells[k] (List.getElem_mem hlt)
          have lk := itoa_len w1 w2
          have hlt' : (k : Int) < (a.cells.length : Int) := by omega
          have HN := Lib.hid (rt_next hlt hr)
          go_wp2_with (go_at_call 99; refine (decimal_ _ w1 w2 _).mono ?_; rintro e w' ⟨rfl, rfl⟩)
          go_round
          case rel => (first | exact ⟨k + 1, _, by omega, rfl, by go_num, rt_size hrz lk, HN.out⟩ | ((repeat apply Exists.intro); refine ⟨⟨k + 1, _, by omega, rfl, by go_num, rt_size hrz lk, HN.out⟩, ?_⟩; (repeat refine ⟨rfl, ?_⟩); exact rfl))
          case measure => simp [intOf]; omega
        · obtain rfl : k = a.cells.length := by omega
          have HF := Lib.hid (rt_end (a := a) (word := [99, 101, 108, 108, 115]) (by rw [whereL_f HW.out]) hr)
          go_wp2_with (go_at_call 99; refine (decimal_ _ v11 v12 _).mono ?_; rintro e w' ⟨rfl, rfl⟩)
          go_ret
          exact ⟨ret_str (bytes_eq HF.out), (by repeat (first | exact Below.refl _ _ | assumption | refine below_drewN ?_ _ | refine Below.drew ?_ | refine Below.setCell ?_ (by first | omega | (simp; done) | (simp; omega)) _ | refine Below.alloc ?_ (by first | omega | (simp; done) | (simp; omega)) _))⟩
end Go.Proofs.YtohfofecbdfkgaaDoor
