/-
  The walk of parsed of package num: a rational number is read (the way on which there is one).
-/
import Derived.Test.YtpphnnijnnfngaaGreatDoorW04
import Derived.Test.YtpphnnijnnfngaaGreatDoorW03
import Derived.Test.YtpphnnijnnfngaaGreatDoorW05
namespace Go.Proofs.YtpphnnijnnfngaaGreatDoor
open Go.RowKit Al Nat9

/-- The library's variable that its search reads. -/
def MxL (w : World) : Prop := ∃ m : Int, w.cell? ⟨0, 0, none⟩ = some (.int .i64 m)
theorem cell_lt {w : World} {b o : Nat} {v : Value} (h : w.cell? ⟨b, o, none⟩ = some v) : b < w.heap.size := by
  rcases Nat.lt_or_ge b w.heap.size with h1 | h1
  · exact h1
  · have e : w.heap[b]? = none := Array.getElem?_eq_none_iff.2 h1
    simp [World.cell?, e] at h
theorem MxL.below {w w' : World} {B : Nat} (h : MxL w) (hb : Below B w w') (hB : w.heap.size ≤ B) : MxL w' := by
  obtain ⟨m, hm⟩ := h
  exact ⟨m, (hb.cell (Nat.lt_of_lt_of_le (cell_lt hm) hB)).trans hm⟩
theorem MxL.low {w w' : World} {B : Nat} (h : MxL w) (hb : Below B w w') (hB : 0 < B) : MxL w' := by
  obtain ⟨m, hm⟩ := h
  exact ⟨m, (hb.cell hB).trans hm⟩
/-- A rational number is handed back, and that it is one. -/
def RabT (r : Rat9) (w : World) (e : Ending) (w' : World) : Prop := ∃ A c D d, e = .returned (.tuple #[.agg #[.bool r.m, .slice A (dg r.n).length c, .slice D (dg r.d).length d], .bool true]) ∧ NaIn w' A c r.n ∧ NaIn w' D d r.d ∧ Below w.heap.size w w'
/-- What parsed reads: its sign, its parts. -/
structure ParOk (s : List UInt8) (m : Bool) (x y : Nat) (dv : Bool) (ab be : List UInt8) : Prop where
  sg : Lib.hasPrefix s [45] = m
  ct : Lib.cut (Lib.trimPrefix s [45]) [47] = (ab, be, dv)
  sa : ab.length ≤ 9
  sb : be.length ≤ 9
  da : ab.all isD = true
  na : ab ≠ []
  va : decV ab = x
  db : dv = true → be.all isD = true
  nb : dv = true → be ≠ []
  vb : dv = true → decV be = y
  y0 : 0 < y
  y1 : dv = false → y = 1
theorem ba_len (l : List UInt8) : (⟨l.toArray⟩ : ByteArray).size = l.length := by rw [Lib.size_eq]
set_option maxRecDepth 100000 in
set_option maxHeartbeats 4000000 in
theorem parsed_ (s : ByteArray) (m : Bool) (x y : Nat) (dv : Bool) (ab be : List UInt8) (w : World) (hM : MxL w) (hs : s.size < 1000) (hp : ParOk s.data.toList m x y dv ab be) :
    Calls Tryz.prog 79 #[.string s] w (RabT (red m x y) w) := by
  have HM := Lib.hid hM
  have hx9 : x < 1000000000 := by
    rw [← hp.va]
    exact Nat.lt_of_lt_of_le (decV_lt _ hp.da) (Nat.pow_le_pow_right (by omega) hp.sa)
  have hy9 : y < 1000000000 := by
    cases dv with
    | true => rw [← hp.vb rfl]; exact Nat.lt_of_lt_of_le (decV_lt _ (hp.db rfl)) (Nat.pow_le_pow_right (by omega) hp.sb)
    | false => rw [hp.y1 rfl]; omega
  have hy0 := hp.y0
  obtain ⟨t, ht⟩ : ∃ t : ByteArray, (⟨(Lib.trimPrefix s.data.toList [45]).toArray⟩ : ByteArray) = t := ⟨_, rfl⟩
  have htl : t.data.toList = Lib.trimPrefix s.data.toList [45] := by rw [← ht]
  obtain ⟨AB, hAB⟩ : ∃ t : ByteArray, (⟨ab.toArray⟩ : ByteArray) = t := ⟨_, rfl⟩
  obtain ⟨BE, hBE⟩ : ∃ t : ByteArray, (⟨be.toArray⟩ : ByteArray) = t := ⟨_, rfl⟩
  have hts : t.size < 4294967281 := by
    rw [← ht, ba_len]
    have h1 : (Lib.trimPrefix s.data.toList [45]).length ≤ s.data.toList.length := by
      unfold Lib.trimPrefix
      split
      · rw [List.length_drop]; omega
      · exact Nat.le_refl _
    rw [← Lib.size_eq] at h1
    omega
  have HC : Hid (∀ W, Calls Tryz.prog 114 #[.string s, .string ⟨#[45]⟩] W fun e w' => e = .returned (.tuple #[.string t, .bool m]) ∧ W = w') := fun W => (Tryz.strings_CutPrefix s ⟨#[45]⟩ W).mono fun e w' ⟨he, hw⟩ => ⟨by rw [he]; show Ending.returned (.tuple #[.string ⟨(Lib.trimPrefix s.data.toList [45]).toArray⟩, .bool (Lib.hasPrefix s.data.toList [45])]) = _; rw [hp.sg, ht], hw.symm⟩
  have HK : Hid (∀ W, MxL W → Calls Tryz.prog 37 #[.string t, .string ⟨#[47]⟩] W fun e w' => e = .returned (.tuple #[.string AB, .string BE, .bool dv]) ∧ ∃ n, w' = W.drewN n) := fun W ⟨mx, hW⟩ => (Tryz.strings_Cut t ⟨#[47]⟩ mx W hts hW).mono fun e w' ⟨he, hw⟩ => ⟨by
    have e2 : Lib.cut t.data.toList (⟨#[47]⟩ : ByteArray).data.toList = (ab, be, dv) := by rw [htl]; exact hp.ct
    rw [he, e2, ← hAB, ← hBE], hw⟩
  have HN1 : Hid (∀ W, Calls Tryz.prog 115 #[.string AB] W (NabT x W)) := fun W => by
    have h := natText_ AB W (by rw [← hAB]; exact hp.da) (by rw [← hAB, ba_len]; exact List.length_pos_iff.2 hp.na) (by rw [← hAB, ba_len]; have := hp.sa; omega)
    rw [← hAB] at h ⊢
    rw [show decV (⟨ab.toArray⟩ : ByteArray).data.toList = x from hp.va] at h
    exact h
  have HN2 : Hid (dv = true → ∀ W, Calls Tryz.prog 115 #[.string BE] W (NabT y W)) := fun hdv W => by
    have h := natText_ BE W (by rw [← hBE]; exact hp.db hdv) (by rw [← hBE, ba_len]; exact List.length_pos_iff.2 (hp.nb hdv)) (by rw [← hBE, ba_len]; have := hp.sb; omega)
    rw [← hBE] at h ⊢
    rw [show decV (⟨be.toArray⟩ : ByteArray).data.toList = y from hp.vb hdv] at h
    exact h
  have hy1 := hp.y1
  have hyl : ((dg y).length == 0) = false := by rw [len_zero]; simp; omega
  have hyl2 : (((dg y).length : Int) == 0) = false := by
    have : (dg y).length ≠ 0 := beq_eq_false_iff_ne.1 hyl
    exact beq_eq_false_iff_ne.2 (by omega)
  obtain ⟨r, hr⟩ : ∃ r, red m x y = r := ⟨_, rfl⟩
  have HR : Hid (∀ W (A D : Option Addr) (c d : Nat), NaIn W A c x → NaIn W D d y → Calls Tryz.prog 60 #[.bool m, .slice A (dg x).length c, .slice D (dg y).length d] W (RatT r W)) := fun W A D c d h1 h2 => hr ▸ reduced_ m x y A D c d W h1 h2 hx9 hy0 hy9
  rw [hr]
  clear hr ht htl hAB hBE hts hp hx9 hy9 hM hyl
  go_enter Tryz.func79, Tryz.ntmps79
  go_wp2_with fail
  refine (HC.out _).mono ?_
  rintro e w1 ⟨rfl, rfl⟩
  go_wp2_with fail
  refine (HK.out _ (HM.out.below (show Below w.heap.size w _ from (by repeat (first | exact Below.refl _ _ | assumption | refine below_drewN ?_ _ | refine Below.drew ?_ | refine Below.setCell ?_ (by first | omega | (simp; done) | (simp; omega)) _ | refine Below.alloc ?_ (by first | omega | (simp; done) | (simp; omega)) _))) (Nat.le_refl _))).mono ?_
  rintro e w2 ⟨rfl, n2, rfl⟩
  go_wp2_with fail
  refine (HN1.out _).mono ?_
  rintro e w3 ⟨A, c, rfl, hq, hb⟩
  have HN := Lib.hid hq
  have HB3 : Hid (Below (w.heap.size + 1) (w.alloc (.cells #[.bool false, .slice none 0 0, .slice none 0 0] 69)) w3) := (below_drewN (Below.refl _ _) n2).trans (by simpa using hb)
  have hz3 := HB3.out.size
  simp at hz3
  clear hq hb
  go_wp2_with fail
  refine (one_ _).mono ?_
  rintro e w4 ⟨D1, d1, rfl, hq, hb⟩
  rw [len1]
  have HO1 := Lib.hid hq
  have HNb := Lib.hid (HN.out.below hb)
  have HB4 : Hid (Below (w.heap.size + 1) (w.alloc (.cells #[.bool false, .slice none 0 0, .slice none 0 0] 69)) w4) := HB3.out.trans (hb.mono (by omega))
  have hz4 := HB4.out.size
  simp at hz4
  clear hq hb
  cases dv with
  | false =>
    obtain rfl := hy1 rfl
    rw [len1] at HR
    go_wp2_with fail
    refine (HR.out _ _ _ _ _ HNb.out HO1.out).mono ?_
    rintro e w6 ⟨A6, c6, D6, d6, rfl, hn, hd, hb⟩
    have HA6 := Lib.hid hn
    have HD6 := Lib.hid hd
    have HB6 : Hid (Below (w.heap.size + 1) (w.alloc (.cells #[.bool false, .slice none 0 0, .slice none 0 0] 69)) w6) := HB4.out.trans (hb.mono (by omega))
    have HW : Hid (Below w.heap.size w w6) := (show Below w.heap.size w _ from (by repeat (first | exact Below.refl _ _ | assumption | refine below_drewN ?_ _ | refine Below.drew ?_ | refine Below.setCell ?_ (by first | omega | (simp; done) | (simp; omega)) _ | refine Below.alloc ?_ (by first | omega | (simp; done) | (simp; omega)) _))).trans (HB6.out.mono (by simp))
    clear hn hd hb
    obtain ⟨-, q0, q1, q2, f0, f1, f2, hlt⟩ := box_cells HB6.out
    go_wp2_with fail
    refine bodyPost_ret (v := .tuple #[.agg #[.bool r.m, .slice A6 (dg r.n).length c6, .slice D6 (dg r.d).length d6], .bool true]) (by simp [results, Tryz.results79, go_sem, q0, q1, q2]) rfl ⟨A6, c6, D6, d6, rfl, box_keeps HB6.out HA6.out _ _ _, box_keeps HB6.out HD6.out _ _ _, (by repeat (first | exact Below.refl _ _ | exact (HW).out | refine below_drewN ?_ _ | refine Below.drew ?_ | refine Below.setCell ?_ (by first | omega | (simp; done) | (simp; omega)) _ | refine Below.alloc ?_ (by first | omega | (simp; done) | (simp; omega)) _))⟩
  | true =>
    clear hy1
    have HN2' := HN2.out rfl
    have HN2H := Lib.hid HN2'
    clear HN2'
    go_wp2_with fail
    refine (HN2H.out _).mono ?_
    rintro e w5 ⟨D, d, rfl, hq, hb⟩
    have HD := Lib.hid hq
    have HNc := Lib.hid (HNb.out.below hb)
    have HB5 : Hid (Below (w.heap.size + 1) (w.alloc (.cells #[.bool false, .slice none 0 0, .slice none 0 0] 69)) w5) := HB4.out.trans (hb.mono (by omega))
    have hz5 := HB5.out.size
    simp at hz5
    clear hq hb
    go_wp2_with fail
    refine (HR.out _ _ _ _ _ HNc.out HD.out).mono ?_
    rintro e w6 ⟨A6, c6, D6, d6, rfl, hn, hd, hb⟩
    have HA6 := Lib.hid hn
    have HD6 := Lib.hid hd
    have HB6 : Hid (Below (w.heap.size + 1) (w.alloc (.cells #[.bool false, .slice none 0 0, .slice none 0 0] 69)) w6) := HB5.out.trans (hb.mono (by omega))
    have HW : Hid (Below w.heap.size w w6) := (show Below w.heap.size w _ from (by repeat (first | exact Below.refl _ _ | assumption | refine below_drewN ?_ _ | refine Below.drew ?_ | refine Below.setCell ?_ (by first | omega | (simp; done) | (simp; omega)) _ | refine Below.alloc ?_ (by first | omega | (simp; done) | (simp; omega)) _))).trans (HB6.out.mono (by simp))
    clear hn hd hb
    obtain ⟨-, q0, q1, q2, f0, f1, f2, hlt⟩ := box_cells HB6.out
    go_wp2_with fail
    refine bodyPost_ret (v := .tuple #[.agg #[.bool r.m, .slice A6 (dg r.n).length c6, .slice D6 (dg r.d).length d6], .bool true]) (by simp [results, Tryz.results79, go_sem, q0, q1, q2]) rfl ⟨A6, c6, D6, d6, rfl, box_keeps HB6.out HA6.out _ _ _, box_keeps HB6.out HD6.out _ _ _, (by repeat (first | exact Below.refl _ _ | exact (HW).out | refine below_drewN ?_ _ | refine Below.drew ?_ | refine Below.setCell ?_ (by first | omega | (simp; done) | (simp; omega)) _ | refine Below.alloc ?_ (by first | omega | (simp; done) | (simp; omega)) _))⟩
end Go.Proofs.YtpphnnijnnfngaaGreatDoor
