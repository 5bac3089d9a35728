/-
  The walks of the two functions that reckon the digest.
-/
import Derived.Test.YtohfofecbdfkgaaDoorTx
import Derived.Test.YtohfofecbdfkgaaDoorRt
import Derived.Lib.ConvBytes
namespace Go.Proofs.YtohfofecbdfkgaaDoor
open Go.RowKit Al

theorem conv_below (w : World) (e : TypeId) (s : ByteArray) : Below w.heap.size w (Lib.bytesWorld w e s) :=
  ⟨rfl, rfl, rfl, by rw [Lib.bytesWorld_size]; omega, fun k hk => Lib.bytesWorld_at_old w e s k hk⟩
theorem dig_next {l : List UInt8} {k : Nat} (h : k < l.length) : digL (l.take (k + 1)) = (digL (l.take k) * 31 + (l[k].toNat : Int) + 1) % 2147483647 := by
  rw [List.take_succ_eq_append_getElem h, digL_snoc]
/-- []byte(s): what is known of it. -/
theorem conv_ (w : World) (l : List UInt8) : ∃ (cp : Nat) (w' : World), (convert 9 119 (.string ⟨l.toArray⟩)).run Tryd.prog w = .ok (.slice (some ⟨w.heap.size, 0, none⟩) l.length cp) w' ∧ Below w.heap.size w w' ∧
    ∀ j (hj : j < l.length), w'.cell? ⟨w.heap.size, j, none⟩ = some (.int .u8 (l[j].toNat : Int)) := by
  have hsz : (⟨l.toArray⟩ : ByteArray).size = l.length := by simp [ByteArray.size_mk']
  have h := Lib.run_convert_string_bytes (P := Tryd.prog) w 9 119 5 (⟨l.toArray⟩ : ByteArray) Tryd.underlying9 Tryd.underlying119 Tryd.underlying5
  refine ⟨_, _, by rw [h, hsz], conv_below _ _ _, fun j hj => ?_⟩
  rw [Lib.bytesWorld_cell w _ _ j (by rw [hsz]; exact hj)]
  simp [List.getD, hj]

def DgRel (l : List UInt8) (n i : Value) : Prop := ∃ k : Nat, k ≤ l.length ∧ n = .int .i64 (digL (l.take k)) ∧ i = .int .i64 k

set_option maxRecDepth 100000 in
theorem digest_ (a : Alr) (A : Option Addr) (c B : Nat) (w : World) (hg : AlGood a) (h : Sl w B 1 A a.cells.length c (ints a.cells)) (hB : B ≤ w.heap.size) (ht : Tab w) (h3 : 3 ≤ w.heap.size) :
    Calls Tryd.prog 74 #[a.val A c] w fun e w' => e = .returned (.int .i64 (digA a)) ∧ Below w.heap.size w w' := by
  have hlen := Lib.hid (textL_len hg)
  have HG := Lib.hid hg
  have HT := Lib.hid ht
  have HS := Lib.hid h
  clear hg ht h
  go_enter Tryd.func74, Tryd.ntmps74
  go_wp2_with fail
  refine (text_ a A c B _ HG.out (HS.out.alloc hB _) (by simp; omega) (HT.out.below (B := w.heap.size) (by omega) (by repeat (first | exact Below.refl _ _ | assumption | refine below_drewN ?_ _ | refine Below.drew ?_ | refine Below.setCell ?_ (by first | omega | (simp; done) | (simp; omega)) _ | refine Below.alloc ?_ (by first | omega | (simp; done) | (simp; omega)) _))) (by simp; omega)).mono ?_
  rintro e w1 ⟨rfl, hb⟩
  have hz := hb.size
  simp at hz
  have hw1 : Below w.heap.size w w1 := (show Below w.heap.size w _ from (by repeat (first | exact Below.refl _ _ | assumption | refine below_drewN ?_ _ | refine Below.drew ?_ | refine Below.setCell ?_ (by first | omega | (simp; done) | (simp; omega)) _ | refine Below.alloc ?_ (by first | omega | (simp; done) | (simp; omega)) _))).trans (hb.mono (by simp))
  clear hb
  obtain ⟨cp, w2, hcv, hb2, hcell⟩ := conv_ w1 (textL a)
  have HC := Lib.hid hcv
  have HB := Lib.hid (hw1.trans (hb2.mono hw1.size))
  have HL := Lib.hid hcell
  clear hcv hb2 hcell hw1
  have hlen' : (textL a).length ≤ 1048576 := hlen.out
  have HD : Hid (digA a = digL (textL a)) := rfl
  go_wp2_with fail
  rw [HC.out]
  simp only [Result.andThen]
  rw [Oper.upon_value]
  clear HC HG HT HS hlen
  generalize textL a = l at *
  go_wp2_with fail
  go_loop [3, 10] (fun n i => DgRel l n i) (fun _ i => l.length - (intOf i).toNat)
  case atStart => exact ⟨0, Nat.zero_le _, rfl, rfl⟩
  case round =>
    obtain ⟨k, hk, rfl, rfl⟩ := hrel
    obtain ⟨d1, d2⟩ := digL_in (l.take k)
    by_cases hlt : k < l.length
    · have hc := HL.out k hlt
      have hlt' : (k : Int) < (l.length : Int) := by omega
      have hu := l[k].toNat_lt
      have HN := Lib.hid (dig_next hlt)
      go_wp2_with fail
      go_round
      case rel => (first | exact ⟨k + 1, by omega, by rw [HN.out], by go_num⟩ | ((repeat apply Exists.intro); refine ⟨⟨k + 1, by omega, by rw [HN.out], by go_num⟩, ?_⟩; (repeat refine ⟨rfl, ?_⟩); exact rfl))
      case measure => simp [intOf]; omega
    · obtain rfl : k = l.length := by omega
      go_wp2_with fail
      go_ret
      exact ⟨ret_int (by rw [HD.out]), HB.out⟩

set_option maxRecDepth 100000 in
theorem rdigest_ (a : Alr) (A : Option Addr) (c B : Nat) (w : World) (hg : AlGood a) (h : Sl w B 1 A a.cells.length c (ints a.cells)) (hB : B ≤ w.heap.size) :
    Calls Tryd.prog 57 #[a.val A c] w fun e w' => e = .returned (.int .i64 (digA a)) ∧ Below w.heap.size w w' := by
  have hlen := Lib.hid (textL_len hg)
  have HG := Lib.hid hg
  have HS := Lib.hid h
  clear hg h
  go_enter Tryd.func57, Tryd.ntmps57
  go_wp2_with fail
  refine (rtext_ a A c B _ HG.out (HS.out.alloc hB _) (by simp; omega)).mono ?_
  rintro e w1 ⟨rfl, hb⟩
  have HB := Lib.hid ((show Below w.heap.size w _ from (by repeat (first | exact Below.refl _ _ | assumption | refine below_drewN ?_ _ | refine Below.drew ?_ | refine Below.setCell ?_ (by first | omega | (simp; done) | (simp; omega)) _ | refine Below.alloc ?_ (by first | omega | (simp; done) | (simp; omega)) _))).trans (hb.mono (by simp)))
  clear hb
  have hlen' : (textL a).length ≤ 1048576 := hlen.out
  have HD : Hid (digA a = digL (textL a)) := rfl
  clear HG HS hlen
  generalize textL a = l at *
  go_wp2_with fail
  go_loop [3, 5] (fun n i => DgRel l n i) (fun _ i => l.length - (intOf i).toNat)
  case atStart => exact ⟨0, Nat.zero_le _, rfl, rfl⟩
  case round =>
    obtain ⟨k, hk, rfl, rfl⟩ := hrel
    obtain ⟨d1, d2⟩ := digL_in (l.take k)
    by_cases hlt : k < l.length
    · have hlt' : (k : Int) < (l.length : Int) := by omega
      have hsz : k < (⟨l.toArray⟩ : ByteArray).size := by simpa [ByteArray.size_mk'] using hlt
      have hix : (⟨l.toArray⟩ : ByteArray)[k] = l[k] := by
        show l.toArray[k] = l[k]
        simp
      have hu := l[k].toNat_lt
      have HN := Lib.hid (dig_next hlt)
      go_wp2_with fail
      go_round
      case rel => (first | exact ⟨k + 1, by omega, by rw [HN.out], by go_num⟩ | ((repeat apply Exists.intro); refine ⟨⟨k + 1, by omega, by rw [HN.out], by go_num⟩, ?_⟩; (repeat refine ⟨rfl, ?_⟩); exact rfl))
      case measure => simp [intOf]; omega
    · obtain rfl : k = l.length := by omega
      go_wp2_with fail
      go_ret
      exact ⟨ret_int (by rw [HD.out]), HB.out⟩
end Go.Proofs.YtohfofecbdfkgaaDoor
