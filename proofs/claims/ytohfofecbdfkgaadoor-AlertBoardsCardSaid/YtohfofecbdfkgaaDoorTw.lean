/-
  The walks of 'row' and 'Decimal'.
-/
import Derived.Test.YtohfofecbdfkgaaDoorShelf
import Derived.Test.YtohfofecbdfkgaaDoorAr
import Derived.Test.YtohfofecbdfkgaaDoorPt
import Derived.Test.YtohfofecbdfkgaaDoorMem
import Derived.WalkLawsBesides
namespace Go.Proofs.YtohfofecbdfkgaaDoor
open Go.RowKit Al

/-- The library's table of powers of ten lies in the world. -/
def Tab (w : World) : Prop := Lib.TabIs Tryd.prog w "internal/strconv.uint64pow10" .u64 Lib.pow10Tab
theorem gTab : Tryd.prog.globalNamed "internal/strconv.uint64pow10" = some 0 := by kernel_rfl
theorem Tab.below {w w' : World} {B : Nat} (h : Tab w) (hB : 0 < B) (hb : Below B w w') : Tab w' := by
  unfold Tab Lib.TabIs at *
  exact var?_below hb gTab hB h

theorem grow_below (w : World) (k : Nat) (os : Array Obj) : Below w.heap.size w (Go.Sort.grow (w.drewN k) os) := by
  refine (below_drewN (Below.refl _ _) k).trans ⟨rfl, rfl, rfl, ?_, fun i hi => ?_⟩
  · show (w.drewN k).heap.size ≤ ((w.drewN k).heap ++ os).size
    simp
  · show ((w.drewN k).heap ++ os)[i]? = _
    have e : (w.drewN k).heap = w.heap := World.heap_drewN w k
    rw [e, Array.getElem?_append_left hi]
theorem ret_str {a b : ByteArray} (h : a = b) : Ending.returned (.string a) = .returned (.string b) := by rw [h]
theorem bytes_eq {t : ByteArray} {l : List UInt8} (h : t.data.toList = l) : t = ⟨l.toArray⟩ := by
  rw [← h]

theorem str_add (s t : ByteArray) : (s ++ t).data.toList = s.data.toList ++ t.data.toList := by simp [ByteArray.data_append]

theorem enc_lt : ∀ d : Nat, d < 10 → Utf8.encode ((48 + d : Nat) : Int) = ⟨#[UInt8.ofNat (48 + d)]⟩
  | 0, _ => rfl | 1, _ => rfl | 2, _ => rfl | 3, _ => rfl | 4, _ => rfl | 5, _ => rfl | 6, _ => rfl | 7, _ => rfl | 8, _ => rfl | 9, _ => rfl
  | d + 10, h => absurd h (by omega)
theorem enc_digit (m : Nat) : Utf8.encode (48 + (m : Int) % 10) = ⟨#[UInt8.ofNat (48 + m % 10)]⟩ := by
  rw [show 48 + (m : Int) % 10 = ((48 + m % 10 : Nat) : Int) from by omega]
  exact enc_lt _ (by omega)
theorem enc_size (m : Nat) : (Utf8.encode (48 + (m : Int) % 10)).size ≤ 4 := by
  rw [enc_digit]
  show 1 ≤ 4
  omega

theorem dec_next {m N : Nat} {t : ByteArray} (hp : 0 < m) (ht : Hid (dd m ++ t.data.toList = dd N)) : Hid (dd (m / 10) ++ (Utf8.encode (48 + (m : Int) % 10) ++ t).data.toList = dd N) := by
  show _ = _
  rw [← ht.out, dd_step hp, str_add, enc_digit]
  simp

def DecRel (N : Nat) (a s : Value) : Prop := ∃ (m : Nat) (t : ByteArray), a = .int .i64 m ∧ s = .string t ∧ m ≤ 2147483647 ∧ Hid (dd m ++ t.data.toList = dd N)
set_option maxRecDepth 100000 in
set_option maxHeartbeats 1000000 in
theorem decimal_ (n : Int) (h0 : 0 ≤ n) (h1 : n ≤ 2147483647) (w : World) :
    Calls Tryd.prog 99 #[.int .i64 n] w fun e w' => e = .returned (.string ⟨(Lib.itoa n).toArray⟩) ∧ w = w' := by
  obtain ⟨N, rfl⟩ := Int.eq_ofNat_of_zero_le h0
  by_cases hz : N = 0
  · subst hz
    have HI : Hid ((⟨(Lib.itoa ((0 : Nat) : Int)).toArray⟩ : ByteArray) = ⟨#[48]⟩) := by
      show _ = _
      rw [show Lib.itoa ((0 : Nat) : Int) = [48] from by simp [Lib.itoa, Lib.decDigits_one]]
    go_enter Tryd.func99, Tryd.ntmps99
    go_wp2
    go_ret
    exact ⟨ret_str HI.out.symm, rfl⟩
  · have hz' : ((N : Int) == 0) = false := by simpa using hz
    have hn' : ¬ (N : Int) < 0 := by omega
    have HI := Lib.hid (dd_itoa (m := N) (by omega))
    have HL := Lib.hid (itoa_len h0 h1)
    clear hz
    go_enter Tryd.func99, Tryd.ntmps99
    go_wp2
    go_loop [0, 3] (fun a s => DecRel N a s) (fun a _ => (intOf a).toNat)
    case atStart => exact ⟨N, _, rfl, rfl, by omega, by show _ = _; simp⟩
    case round =>
      obtain ⟨m, t, rfl, rfl, hm, ht⟩ := hrel
      have hsz : t.size ≤ 10 := by
        have e := congrArg List.length ht.out
        rw [HI.out, List.length_append] at e
        have := HL.out
        have e2 : t.data.toList.length = t.size := by rw [Array.length_toList]; rfl
        omega
      by_cases hp : 0 < m
      · have hp' : ((m : Int) != 0) = true := by simp; omega
        have HX := dec_next hp ht
        have HX' := Lib.hid HX
        clear HX
        go_wp2_with fail
        all_goals first
          | (exfalso; have := enc_size m; omega)
          | (go_round
             case rel => (first | exact ⟨m / 10, _, by go_num, rfl, by omega, HX'.out⟩ | ((repeat apply Exists.intro); refine ⟨⟨m / 10, _, by go_num, rfl, by omega, HX'.out⟩, ?_⟩; (repeat refine ⟨rfl, ?_⟩); exact rfl))
             case measure => simp [intOf]; omega)
      · obtain rfl : m = 0 := by omega
        have HF : Hid (t.data.toList = Lib.itoa N) := by
          show _ = _
          rw [← HI.out, ← ht.out]; rfl
        go_wp2
        go_ret
        exact ⟨ret_str (bytes_eq HF.out), rfl⟩

def RowRel (word : ByteArray) (l : List Int) (s i : Value) : Prop := ∃ (k : Nat) (t : ByteArray), k ≤ l.length ∧ s = .string t ∧ i = .int .i64 k ∧ t.size ≤ word.size + 11 * k ∧ Hid (t.data.toList = rowL word.data.toList (l.take k))
set_option maxRecDepth 100000 in
set_option maxHeartbeats 1000000 in
theorem row_ (word : ByteArray) (l : List Int) (A : Option Addr) (c B : Nat) (w : World) (hw : word.size ≤ 1048576) (hl : l.length ≤ 1048576) (hf : Fine l) (h : Sl w B 1 A l.length c (ints l)) (hB : B ≤ w.heap.size) (ht : Tab w) (h3 : 3 ≤ w.heap.size) :
    Calls Tryd.prog 101 #[.string word, .slice A l.length c] w fun e w' => ∃ t : ByteArray, e = .returned (.string t) ∧ Hid (t.data.toList = rowL word.data.toList l) ∧ t.size ≤ word.size + 11 * l.length ∧ Below w.heap.size w w' := by
  have HF := Lib.hid hf
  clear hf
  go_enter Tryd.func101, Tryd.ntmps101
  go_wp2
  go_loopw [0, 9] (fun s i wr => RowRel word l s i ∧ Below w.heap.size w wr) (fun _ i _ => l.length - (intOf i).toNat)
  case atStart => exact ⟨⟨0, word, Nat.zero_le _, rfl, rfl, by omega, by show _ = _; rw [List.take_zero, rowL_nil]⟩, Below.refl _ _⟩
  case round =>
    obtain ⟨⟨k, t, hk, rfl, rfl, hsz, hp⟩, hb⟩ := hrel
    by_cases hlt : k < l.length
    · obtain ⟨b, off, rfl, hbb, hc⟩ := h.int_at hlt hlt
      have hc' : wr.cell? ⟨b, off + k, none⟩ = some (.int .i64 l[k]) := by rw [(bcell hb).1 b (off + k) (by omega)]; exact hc
      have hr := HF.out l[k] (List.getElem_mem hlt)
      have hlen := itoa_len hr.1 hr.2
      have HT := Lib.hid (ht.below (by omega) hb)
      have HS : Hid ((t ++ ((⟨#[32]⟩ : ByteArray) ++ ⟨(Lib.itoa l[k]).toArray⟩)).data.toList = rowL word.data.toList (l.take (k + 1))) := by
        show _ = _
        rw [take_snoc hlt, rowL_snoc, ← hp.out, str_add, str_add]
        simp
      have hsz' : (t ++ ((⟨#[32]⟩ : ByteArray) ++ ⟨(Lib.itoa l[k]).toArray⟩)).size ≤ word.size + 11 * (k + 1) := by
        rw [ByteArray.size_append, ByteArray.size_append]
        show t.size + (1 + (Lib.itoa l[k]).toArray.size) ≤ _
        rw [List.size_toArray]
        omega
      go_wp2_with (go_at_call 104; refine (Tryd.strconv_Itoa _ (by omega) (by omega) _ HT.out).mono ?_; rintro e w' ⟨rfl, q, os, rfl⟩)
      go_roundw
      case rel => (first | exact ⟨⟨k + 1, _, by omega, rfl, by go_num, hsz', HS⟩, hb.trans ((grow_below _ _ _).mono hb.size)⟩ | ((repeat apply Exists.intro); refine ⟨⟨⟨k + 1, _, by omega, rfl, by go_num, hsz', HS⟩, hb.trans ((grow_below _ _ _).mono hb.size)⟩, ?_⟩; (repeat refine ⟨rfl, ?_⟩); exact rfl))
      case measure => simp [intOf]; omega
    · obtain rfl : k = l.length := by omega
      go_wp2
      go_ret
      exact ⟨t, rfl, by show _ = _; rw [hp.out, List.take_of_length_le (Nat.le_refl _)], hsz, hb⟩
end Go.Proofs.YtohfofecbdfkgaaDoor
