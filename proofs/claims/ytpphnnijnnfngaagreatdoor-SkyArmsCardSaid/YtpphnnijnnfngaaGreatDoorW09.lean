/-
  Short numbers of package num as text: the walks of text, size, big (numbers of one or two decimal digits).
-/
import Derived.Test.YtpphnnijnnfngaaGreatDoorW07
import Derived.Test.YtpphnnijnnfngaaGreatDoorW08
import Derived.Deep.AppendLies
namespace Go.Proofs.YtpphnnijnnfngaaGreatDoor
open Go.RowKit Al Nat9

/-- The text of a number. -/
def bT (l : List UInt8) : ByteArray := ⟨l.toArray⟩
theorem dec_len {v : Nat} (hv : v < 100) : 1 ≤ (Lib.decDigits v).length ∧ (Lib.decDigits v).length ≤ 2 := by
  by_cases h : v < 10
  · rw [Lib.decDigits_one h]; simp
  · rw [Lib.decDigits_two h hv]; simp
theorem dec_zero : Lib.decDigits 0 = [48] := by rw [Lib.decDigits_one (by omega)]; rfl
theorem bT_size (l : List UInt8) : (bT l).size = l.length := ba_len l
theorem bldBelow {T e B b : Nat} {bs : List Value} {w w' : World} (h : Lib.IsBuilder T e B b bs w) (hb : Below w.heap.size w w') : Lib.IsBuilder T e B b bs w' := by
  have key : ∀ p, Lib.BuilderAt T e B b p bs w → Lib.BuilderAt T e B b p bs w' := by
    rintro p ⟨hB, v, hh, hown, hne⟩
    exact ⟨hB, v, by rw [hb.block b (Array.getElem?_eq_some_iff.1 hh).1]; exact hh, own_below hown (Nat.le_refl _) hb, hne⟩
  rcases h with h | h
  · exact .inl (key _ h)
  · exact .inr (key _ h)
set_option maxRecDepth 100000 in
theorem ifmt_ (v : Nat) (hv : v < 100) (w : World) : Calls Tryz.prog 148 #[.int .u64 (v : Int), .int .i64 10] w fun e w' => e = .returned (.string (bT (Lib.decDigits v))) ∧ w = w' := by
  have h0 : (0 : Int) ≤ (v : Int) := by omega
  have h1 : (v : Int) < 100 := by omega
  have HS : Hid (∀ W, Calls Tryz.prog 154 #[.int .i64 (v : Int)] W fun e w' => e = .returned (.string (bT (Lib.decDigits v))) ∧ W = w') := fun W => (Tryz.internal_strconv_small v hv W).mono fun e w' ⟨he, hw⟩ => ⟨he, hw.symm⟩
  go_enter Tryz.func148, Tryz.ntmps148
  go_wp2_with fail
  refine (HS.out _).mono ?_
  rintro e w' ⟨rfl, rfl⟩
  go_wp2_with fail
  go_ret
  exact ⟨rfl, rfl⟩
set_option maxRecDepth 100000 in
theorem fmtU_ (v : Nat) (hv : v < 100) (w : World) : Calls Tryz.prog 140 #[.int .u64 (v : Int), .int .i64 10] w fun e w' => e = .returned (.string (bT (Lib.decDigits v))) ∧ w = w' := by
  go_enter Tryz.func140, Tryz.ntmps140
  go_wp2_with fail
  refine (ifmt_ v hv _).mono ?_
  rintro e w' ⟨rfl, rfl⟩
  go_wp2_with fail
  go_ret
  exact ⟨rfl, rfl⟩
theorem na_one {w : World} {A : Option Addr} {c v : Nat} (h : NaIn w A c v) (h0 : 0 < v) (h9 : v < 1000000000) : (dg v).length = 1 ∧ ∃ b off, A = some ⟨b, off, none⟩ ∧ b < w.heap.size ∧ w.cell? ⟨b, off, none⟩ = some (.int .u64 (v : Int)) := by
  have hl : (dg v).length = 1 := by rw [dg_small h0 h9]; rfl
  refine ⟨hl, ?_⟩
  obtain ⟨b, off, e, hb, z⟩ := S64.u64_at h (k := 0) (by omega)
  refine ⟨b, off, e, hb, ?_⟩
  rw [Nat.add_zero] at z
  rw [z]
  congr 2
  have e := getElem_congr_coll (i := 0) (dg_small h0 h9) (w := by omega)
  rw [e]
  rfl
set_option maxRecDepth 100000 in
set_option maxHeartbeats 1000000 in
theorem nsize_ (v : Nat) (hv : v < 100) (A : Option Addr) (c : Nat) (w : World) (h : NaIn w A c v) : Calls Tryz.prog 117 #[.slice A (dg v).length c] w fun e w' => e = .returned (.int .i64 ((Lib.decDigits v).length : Int)) ∧ w = w' := by
  by_cases h0 : v = 0
  · subst h0
    rw [len0, dec_zero]
    go_enter Tryz.func117, Tryz.ntmps117
    go_wp2_with fail
    go_ret
    exact ⟨rfl, rfl⟩
  · obtain ⟨hl, b, off, rfl, hb, z⟩ := na_one h (by omega) (by omega)
    have hcap : 1 ≤ c := by have := S64.cap h; omega
    have hd := dec_len hv
    have hsz := bT_size (Lib.decDigits v)
    rw [hl]
    clear h hl
    go_enter Tryz.func117, Tryz.ntmps117
    go_wp2_with fail
    refine (fmtU_ v hv _).mono ?_
    rintro e w' ⟨rfl, rfl⟩
    go_wp2_with fail
    go_ret
    exact ⟨rfl, rfl⟩
set_option maxRecDepth 100000 in
set_option maxHeartbeats 4000000 in
theorem ntext_ (v : Nat) (hv : v < 100) (A : Option Addr) (c : Nat) (w : World) (h : NaIn w A c v) : Calls Tryz.prog 139 #[.slice A (dg v).length c] w fun e w' => e = .returned (.string (bT (Lib.decDigits v))) ∧ Below w.heap.size w w' := by
  by_cases h0 : v = 0
  · subst h0
    rw [len0, dec_zero]
    go_enter Tryz.func139, Tryz.ntmps139
    go_wp2_with fail
    go_ret
    exact ⟨rfl, Below.refl _ _⟩
  · obtain ⟨hl, b, off, rfl, hb, z⟩ := na_one h (by omega) (by omega)
    have hcap : 1 ≤ c := by have := S64.cap h; omega
    have hd := dec_len hv
    have HSZ := Lib.hid (bT_size (Lib.decDigits v))
    rw [hl]
    clear h hl
    go_enter Tryz.func139, Tryz.ntmps139
    go_wp2_with fail
    refine (fmtU_ v hv _).mono ?_
    rintro e w' ⟨rfl, rfl⟩
    go_wp2_with fail
    refine (bldWrite w.heap.size w.heap.size [] _ _ (.inl ⟨Nat.le_refl _, _, heap_alloc_new w _, World.ownsRow_nil _ _ _ _, by simp [Value.ownBlock]⟩) (by rw [HSZ.out]; simp; omega) (by simp)).mono ?_
    rintro e w2 ⟨rfl, h5, h6⟩
    have HB := Lib.hid h5
    have HW := Lib.hid ((show Below w.heap.size w _ from (by repeat (first | exact Below.refl _ _ | assumption | refine below_drewN ?_ _ | refine Below.drew ?_ | refine Below.setCell ?_ (by first | omega | (simp; done) | (simp; omega)) _ | refine Below.alloc ?_ (by first | omega | (simp; done) | (simp; omega)) _))).trans h6)
    have hz2 := h6.size
    simp at hz2
    clear h5 h6
    go_wp2_with fail
    go_loopw [4] (fun i wr => i = .int .i64 (-1) ∧ ∃ n, wr = w2.drewN n) (fun _ _ => 0)
    case atStart => exact ⟨by first | rfl | go_num, 0, rfl⟩
    case round =>
      obtain ⟨rfl, n, rfl⟩ := hrel
      go_wp2_with fail
      refine (Tryz.Builder_String_any w.heap.size w.heap.size (Lib.decDigits v) _ (bldBelow (.inr (by have h := HB.out; rw [List.nil_append, Lib.strCells_eq] at h; exact h)) (below_drewN (Below.refl _ _) n)) (by simp; omega)).mono ?_
      rintro e w3 ⟨rfl, h6⟩
      have HW3 := Lib.hid (HW.out.trans ((below_drewN (Below.refl _ _) n).trans h6))
      clear h6
      go_wp2_with fail
      go_ret
      exact ⟨rfl, HW3.out⟩
/-- A short rational number. -/
structure Rsh (r : Rat9) : Prop where
  n : r.n < 100
  d : r.d < 100
  d0 : 0 < r.d
/-- The text of a rational number. -/
def txR (r : Rat9) : List UInt8 := (if r.m then [45] else []) ++ Lib.decDigits r.n ++ (if r.d = 1 then [] else 47 :: Lib.decDigits r.d)
set_option maxRecDepth 100000 in
set_option maxHeartbeats 4000000 in
theorem rbig_ (r : Rat9) (hr : Rsh r) (A D : Option Addr) (c d : Nat) (w : World) (h : RIn w r A c D d) : Calls Tryz.prog 81 #[r.val A c D d] w fun e w' => e = .returned (.bool false) ∧ Below w.heap.size w w' := by
  obtain ⟨rm, rn, rd⟩ := r
  have hn : rn < 100 := hr.n
  have hd : rd < 100 := hr.d
  have HS1 : Hid (∀ W, Below w.heap.size w W → Calls Tryz.prog 117 #[.slice A (dg rn).length c] W fun e w' => e = .returned (.int .i64 ((Lib.decDigits rn).length : Int)) ∧ W = w') := fun W hW => nsize_ rn hn A c W (h.n.below hW)
  have HS2 : Hid (∀ W, Below w.heap.size w W → Calls Tryz.prog 117 #[.slice D (dg rd).length d] W fun e w' => e = .returned (.int .i64 ((Lib.decDigits rd).length : Int)) ∧ W = w') := fun W hW => nsize_ rd hd D d W (h.d.below hW)
  have t1 := (dec_len hn).2
  have t2 := (dec_len hd).2
  have t3 : ¬ (2000 : Int) < ((Lib.decDigits rn).length : Int) := by omega
  have t4 : ¬ (2000 : Int) < ((Lib.decDigits rd).length : Int) := by omega
  have t5 : decide (2000 < (Lib.decDigits rn).length) = false := by simp; omega
  have t6 : decide (2000 < (Lib.decDigits rd).length) = false := by simp; omega
  have t7 : decide ((2000 : Int) < ((Lib.decDigits rn).length : Int)) = false := decide_eq_false t3
  have t8 : decide ((2000 : Int) < ((Lib.decDigits rd).length : Int)) = false := decide_eq_false t4
  clear h hr hn hd
  simp only [Rat9.val]
  go_enter Tryz.func81, Tryz.ntmps81
  go_wp2_with fail
  refine (HS1.out _ (by repeat (first | exact Below.refl _ _ | assumption | refine below_drewN ?_ _ | refine Below.drew ?_ | refine Below.setCell ?_ (by first | omega | (simp; done) | (simp; omega)) _ | refine Below.alloc ?_ (by first | omega | (simp; done) | (simp; omega)) _))).mono ?_
  rintro e w' ⟨rfl, rfl⟩
  go_wp2_with fail
  refine (HS2.out _ (by repeat (first | exact Below.refl _ _ | assumption | refine below_drewN ?_ _ | refine Below.drew ?_ | refine Below.setCell ?_ (by first | omega | (simp; done) | (simp; omega)) _ | refine Below.alloc ?_ (by first | omega | (simp; done) | (simp; omega)) _))).mono ?_
  rintro e w' ⟨rfl, rfl⟩
  go_wp2_with fail
  go_ret
  exact ⟨rfl, (by repeat (first | exact Below.refl _ _ | assumption | refine below_drewN ?_ _ | refine Below.drew ?_ | refine Below.setCell ?_ (by first | omega | (simp; done) | (simp; omega)) _ | refine Below.alloc ?_ (by first | omega | (simp; done) | (simp; omega)) _))⟩
theorem bT_app (l m : List UInt8) : bT l ++ bT m = bT (l ++ m) := by
  unfold bT
  have e : ∀ a b : ByteArray, a.data.toList = b.data.toList → a = b := fun a b h => by
    cases a; cases b; congr 1; exact Array.toList_inj.1 h
  apply e
  simp
set_option maxRecDepth 100000 in
set_option maxHeartbeats 4000000 in
theorem rtext_ (r : Rat9) (hr : Rsh r) (A D : Option Addr) (c d : Nat) (w : World) (h : RIn w r A c D d) : Calls Tryz.prog 116 #[r.val A c D d] w fun e w' => e = .returned (.string (bT (txR r))) ∧ Below w.heap.size w w' := by
  obtain ⟨rm, rn, rd⟩ := r
  have hn : rn < 100 := hr.n
  have hd : rd < 100 := hr.d
  have hd0 : 0 < rd := hr.d0
  have HS1 : Hid (∀ W, Below w.heap.size w W → Calls Tryz.prog 139 #[.slice A (dg rn).length c] W fun e w' => e = .returned (.string (bT (Lib.decDigits rn))) ∧ Below W.heap.size W w') := fun W hW => ntext_ rn hn A c W (h.n.below hW)
  have HS2 : Hid (∀ W, Below w.heap.size w W → Calls Tryz.prog 139 #[.slice D (dg rd).length d] W fun e w' => e = .returned (.string (bT (Lib.decDigits rd))) ∧ Below W.heap.size W w') := fun W hW => ntext_ rd hd D d W (h.d.below hW)
  obtain ⟨hl, b, off, rfl, hb, z⟩ := na_one (show NaIn w D d rd from h.d) hd0 (by omega)
  have hcap : 1 ≤ d := by have := S64.cap h.d; rw [show (dg rd).length = 1 from hl] at this; exact this
  have s1 : (bT (Lib.decDigits rn)).size ≤ 2 := by rw [bT_size]; exact (dec_len hn).2
  have s2 : (bT (Lib.decDigits rd)).size ≤ 2 := by rw [bT_size]; exact (dec_len hd).2
  have HTX : Hid (bT (txR ⟨rm, rn, rd⟩) = bT ((if rm then [45] else []) ++ Lib.decDigits rn ++ (if rd = 1 then [] else 47 :: Lib.decDigits rd))) := rfl
  obtain ⟨R, hR⟩ : ∃ R, bT (txR ⟨rm, rn, rd⟩) = R := ⟨_, rfl⟩
  rw [hR] at HTX ⊢
  have HN : Hid ((⟨#[45]⟩ : ByteArray) ++ bT (Lib.decDigits rn) = bT (45 :: Lib.decDigits rn)) := bT_app [45] _
  have HDD : Hid ((⟨#[47]⟩ : ByteArray) ++ bT (Lib.decDigits rd) = bT (47 :: Lib.decDigits rd)) := bT_app [47] _
  have HA : Hid (∀ l m : List UInt8, bT l ++ bT m = bT (l ++ m)) := bT_app
  obtain ⟨ln, hln⟩ : ∃ l, Lib.decDigits rn = l := ⟨_, rfl⟩
  obtain ⟨ld, hld⟩ : ∃ l, Lib.decDigits rd = l := ⟨_, rfl⟩
  rw [hln] at HS1 s1 HTX HN
  rw [hld] at HS2 s2 HTX HDD
  obtain ⟨de, hde⟩ : ∃ l, bT ln = l := ⟨_, rfl⟩
  obtain ⟨df, hdf⟩ : ∃ l, bT ld = l := ⟨_, rfl⟩
  rw [hde] at HS1 s1 HN
  rw [hdf] at HS2 s2 HDD
  have HDE := Lib.hid hde
  have HDF := Lib.hid hdf
  rw [hl] at HS2
  simp only [Rat9.val]
  rw [hl]
  clear h hr hln hld hde hdf hR hn hd hl
  have finish : ∀ (Z : ByteArray), Z = bT ((if rm then [45] else []) ++ ln ++ (if rd = 1 then [] else 47 :: ld)) → Z = R := fun Z hZ => by rw [hZ]; exact HTX.out.symm
  have HF := Lib.hid finish
  clear finish
  cases rm with
  | true =>
    by_cases h1 : rd = 1
    · subst h1
      go_enter Tryz.func116, Tryz.ntmps116
      go_wp2_with fail
      refine (HS1.out _ (by repeat (first | exact Below.refl _ _ | assumption | refine below_drewN ?_ _ | refine Below.drew ?_ | refine Below.setCell ?_ (by first | omega | (simp; done) | (simp; omega)) _ | refine Below.alloc ?_ (by first | omega | (simp; done) | (simp; omega)) _))).mono ?_
      rintro e w1 ⟨rfl, hb1⟩
      obtain ⟨hc1, hf1⟩ := bcell hb1
      have HW1 : Hid (Below w.heap.size w w1) := (show Below w.heap.size w _ from (by repeat (first | exact Below.refl _ _ | assumption | refine below_drewN ?_ _ | refine Below.drew ?_ | refine Below.setCell ?_ (by first | omega | (simp; done) | (simp; omega)) _ | refine Below.alloc ?_ (by first | omega | (simp; done) | (simp; omega)) _))).trans (hb1.mono (by first | omega | (simp; done) | (simp; omega)))
      have hz1 := hb1.size
      simp at hz1
      clear hb1
      go_wp2_with fail
      go_ret
      refine ⟨congrArg (fun z => Ending.returned (Value.string z)) (HF.out _ ?_), HW1.out⟩
      rw [HN.out]
      try simp
    · have h2 : (1 : Int) < (rd : Int) := by omega
      go_enter Tryz.func116, Tryz.ntmps116
      go_wp2_with fail
      refine (HS1.out _ (by repeat (first | exact Below.refl _ _ | assumption | refine below_drewN ?_ _ | refine Below.drew ?_ | refine Below.setCell ?_ (by first | omega | (simp; done) | (simp; omega)) _ | refine Below.alloc ?_ (by first | omega | (simp; done) | (simp; omega)) _))).mono ?_
      rintro e w1 ⟨rfl, hb1⟩
      obtain ⟨hc1, hf1⟩ := bcell hb1
      have HW1 : Hid (Below w.heap.size w w1) := (show Below w.heap.size w _ from (by repeat (first | exact Below.refl _ _ | assumption | refine below_drewN ?_ _ | refine Below.drew ?_ | refine Below.setCell ?_ (by first | omega | (simp; done) | (simp; omega)) _ | refine Below.alloc ?_ (by first | omega | (simp; done) | (simp; omega)) _))).trans (hb1.mono (by first | omega | (simp; done) | (simp; omega)))
      have hz1 := hb1.size
      simp at hz1
      clear hb1
      go_wp2_with fail
      refine (HS2.out _ (by repeat (first | exact Below.refl _ _ | exact (HW1).out | refine below_drewN ?_ _ | refine Below.drew ?_ | refine Below.setCell ?_ (by first | omega | (simp; done) | (simp; omega)) _ | refine Below.alloc ?_ (by first | omega | (simp; done) | (simp; omega)) _))).mono ?_
      rintro e w2 ⟨rfl, hb2⟩
      have HW2 : Hid (Below w.heap.size w w2) := (show Below w.heap.size w _ from (by repeat (first | exact Below.refl _ _ | exact (HW1).out | refine below_drewN ?_ _ | refine Below.drew ?_ | refine Below.setCell ?_ (by first | omega | (simp; done) | (simp; omega)) _ | refine Below.alloc ?_ (by first | omega | (simp; done) | (simp; omega)) _))).trans (hb2.mono (by first | omega | (simp; done) | (simp; omega)))
      clear hb2
      go_wp2_with fail
      go_ret
      refine ⟨congrArg (fun z => Ending.returned (Value.string z)) (HF.out _ ?_), HW2.out⟩
      rw [HN.out, HDD.out, HA.out, if_neg h1]
      try simp
  | false =>
    by_cases h1 : rd = 1
    · subst h1
      go_enter Tryz.func116, Tryz.ntmps116
      go_wp2_with fail
      refine (HS1.out _ (by repeat (first | exact Below.refl _ _ | assumption | refine below_drewN ?_ _ | refine Below.drew ?_ | refine Below.setCell ?_ (by first | omega | (simp; done) | (simp; omega)) _ | refine Below.alloc ?_ (by first | omega | (simp; done) | (simp; omega)) _))).mono ?_
      rintro e w1 ⟨rfl, hb1⟩
      obtain ⟨hc1, hf1⟩ := bcell hb1
      have HW1 : Hid (Below w.heap.size w w1) := (show Below w.heap.size w _ from (by repeat (first | exact Below.refl _ _ | assumption | refine below_drewN ?_ _ | refine Below.drew ?_ | refine Below.setCell ?_ (by first | omega | (simp; done) | (simp; omega)) _ | refine Below.alloc ?_ (by first | omega | (simp; done) | (simp; omega)) _))).trans (hb1.mono (by first | omega | (simp; done) | (simp; omega)))
      have hz1 := hb1.size
      simp at hz1
      clear hb1
      go_wp2_with fail
      go_ret
      refine ⟨congrArg (fun z => Ending.returned (Value.string z)) (HF.out _ ?_), HW1.out⟩
      rw [← HDE.out]
      try simp
    · have h2 : (1 : Int) < (rd : Int) := by omega
      go_enter Tryz.func116, Tryz.ntmps116
      go_wp2_with fail
      refine (HS1.out _ (by repeat (first | exact Below.refl _ _ | assumption | refine below_drewN ?_ _ | refine Below.drew ?_ | refine Below.setCell ?_ (by first | omega | (simp; done) | (simp; omega)) _ | refine Below.alloc ?_ (by first | omega | (simp; done) | (simp; omega)) _))).mono ?_
      rintro e w1 ⟨rfl, hb1⟩
      obtain ⟨hc1, hf1⟩ := bcell hb1
      have HW1 : Hid (Below w.heap.size w w1) := (show Below w.heap.size w _ from (by repeat (first | exact Below.refl _ _ | assumption | refine below_drewN ?_ _ | refine Below.drew ?_ | refine Below.setCell ?_ (by first | omega | (simp; done) | (simp; omega)) _ | refine Below.alloc ?_ (by first | omega | (simp; done) | (simp; omega)) _))).trans (hb1.mono (by first | omega | (simp; done) | (simp; omega)))
      have hz1 := hb1.size
      simp at hz1
      clear hb1
      go_wp2_with fail
      refine (HS2.out _ (by repeat (first | exact Below.refl _ _ | exact (HW1).out | refine below_drewN ?_ _ | refine Below.drew ?_ | refine Below.setCell ?_ (by first | omega | (simp; done) | (simp; omega)) _ | refine Below.alloc ?_ (by first | omega | (simp; done) | (simp; omega)) _))).mono ?_
      rintro e w2 ⟨rfl, hb2⟩
      have HW2 : Hid (Below w.heap.size w w2) := (show Below w.heap.size w _ from (by repeat (first | exact Below.refl _ _ | exact (HW1).out | refine below_drewN ?_ _ | refine Below.drew ?_ | refine Below.setCell ?_ (by first | omega | (simp; done) | (simp; omega)) _ | refine Below.alloc ?_ (by first | omega | (simp; done) | (simp; omega)) _))).trans (hb2.mono (by first | omega | (simp; done) | (simp; omega)))
      clear hb2
      go_wp2_with fail
      go_ret
      refine ⟨congrArg (fun z => Ending.returned (Value.string z)) (HF.out _ ?_), HW2.out⟩
      rw [HDD.out, ← HDE.out, HA.out, if_neg h1]
      try simp
end Go.Proofs.YtpphnnijnnfngaaGreatDoor

/-
  Real numbers of package num: the walks of text of a value, get (the way on which there is one), put.
-/
namespace Go.Proofs.YtpphnnijnnfngaaGreatDoor
open Go.RowKit Al Nat9

set_option maxRecDepth 100000 in
set_option maxHeartbeats 4000000 in
theorem vtext_ (v : VR) (hr : Rsh v.r) (w : World) (h : v.ok w) : Calls Tryz.prog 80 #[v.val] w fun e w' => e = .returned (.string (bT (txR v.r))) ∧ Below w.heap.size w w' := by
  have HT : Hid (∀ W, Below w.heap.size w W → Calls Tryz.prog 116 #[v.r.val v.A v.c v.D v.d] W fun e w' => e = .returned (.string (bT (txR v.r))) ∧ Below W.heap.size W w') := fun W hW => rtext_ v.r hr v.A v.D v.c v.d W ⟨h.n.below hW, h.d.below hW⟩
  have HI : Hid (∀ W, Calls Tryz.prog 53 #[v.val] W fun e w' => e = .returned (.bool true) ∧ Below W.heap.size W w') := fun W => isReal_ v W
  clear h hr
  obtain ⟨⟨rm, rn, rd⟩, A, c, D, d, B, b, E, f⟩ := v
  simp only [VR.val, Rat9.val] at HT HI ⊢
  obtain ⟨R, hR⟩ : ∃ R, bT (txR ⟨rm, rn, rd⟩) = R := ⟨_, rfl⟩
  rw [hR] at HT ⊢
  clear hR
  go_enter Tryz.func80, Tryz.ntmps80
  go_wp2_with fail
  refine (HI.out _).mono ?_
  rintro e w1 ⟨rfl, hb1⟩
  obtain ⟨hc1, hf1⟩ := bcell hb1
  have HW1 : Hid (Below w.heap.size w w1) := (show Below w.heap.size w _ from (by repeat (first | exact Below.refl _ _ | assumption | refine below_drewN ?_ _ | refine Below.drew ?_ | refine Below.setCell ?_ (by first | omega | (simp; done) | (simp; omega)) _ | refine Below.alloc ?_ (by first | omega | (simp; done) | (simp; omega)) _))).trans (hb1.mono (by first | omega | (simp; done) | (simp; omega)))
  clear hb1
  go_wp2_with fail
  refine (HT.out _ (by repeat (first | exact Below.refl _ _ | exact (HW1).out | refine below_drewN ?_ _ | refine Below.drew ?_ | refine Below.setCell ?_ (by first | omega | (simp; done) | (simp; omega)) _ | refine Below.alloc ?_ (by first | omega | (simp; done) | (simp; omega)) _))).mono ?_
  rintro e w2 ⟨rfl, hb2⟩
  have HW2 : Hid (Below w.heap.size w w2) := (show Below w.heap.size w _ from (by repeat (first | exact Below.refl _ _ | exact (HW1).out | refine below_drewN ?_ _ | refine Below.drew ?_ | refine Below.setCell ?_ (by first | omega | (simp; done) | (simp; omega)) _ | refine Below.alloc ?_ (by first | omega | (simp; done) | (simp; omega)) _))).trans (hb2.mono HW1.out.size)
  clear hb2
  go_wp2_with fail
  go_ret
  exact ⟨rfl, HW2.out⟩
/-- The number 0 is handed back. -/
def ZabT (w : World) (e : Ending) (w' : World) : Prop := ∃ B b E f, e = .returned (.tuple #[.agg #[.bool false, .slice B 0 b, .slice E 1 f], .bool true]) ∧ NaIn w' B b 0 ∧ NaIn w' E f 1 ∧ Below w.heap.size w w'
theorem par_zero : ParOk [48] false 0 1 false [48] [] := ⟨by decide, by decide, by decide, by decide, by decide, by decide, by decide, (by intro h; cases h), (by intro h; cases h), (by intro h; cases h), by decide, fun _ => rfl⟩
theorem parsed_zero (w : World) (hM : MxL w) : Calls Tryz.prog 79 #[.string ⟨#[48]⟩] w (ZabT w) := by
  have h := parsed_ ⟨#[48]⟩ false 0 1 false [48] [] w hM (by decide) par_zero
  refine h.mono ?_
  rintro e w' ⟨A, c, D, d, he, h1, h2, hb⟩
  have e1 : red false 0 1 = ⟨false, 0, 1⟩ := rfl
  rw [e1] at he h1 h2
  refine ⟨A, c, D, d, ?_, h1, h2, hb⟩
  rw [he, len0, len1]
/-- A real value is handed back, and that it is one. -/
def VabT (x : Rat9) (w : World) (e : Ending) (w' : World) : Prop := ∃ v : VR, v.r = x ∧ e = .returned (.tuple #[v.val, .bool true]) ∧ v.ok w' ∧ Below w.heap.size w w'
/-- What get reads. -/
structure GetOk (s : ByteArray) (r : Rat9) : Prop where
  sz : s.size < 1000
  ni : Lib.hasSuffix s.data.toList [105] = false
  ts : Lib.trimSuffix s.data.toList [105] = s.data.toList
  tx : s = bT (txR r)
  sh : Rsh r
  pr : ∃ m x y dv ab be, ParOk s.data.toList m x y dv ab be ∧ red m x y = r
set_option maxRecDepth 100000 in
set_option maxHeartbeats 8000000 in
theorem get_ (s : ByteArray) (r : Rat9) (w : World) (hM : MxL w) (hg : GetOk s r) : Calls Tryz.prog 47 #[.string s] w (VabT r w) := by
  have HM := Lib.hid hM
  have hs := hg.sz
  have HP : Hid (∀ W, MxL W → Calls Tryz.prog 79 #[.string s] W (RabT r W)) := fun W hW => by
    obtain ⟨m, x, y, dv, ab, be, h1, h2⟩ := hg.pr
    have h := parsed_ s m x y dv ab be W hW hg.sz h1
    rw [h2] at h
    exact h
  have HZ : Hid (∀ W, MxL W → Calls Tryz.prog 79 #[.string ⟨#[48]⟩] W (ZabT W)) := parsed_zero
  have HC : Hid (∀ W, ∃ t, Calls Tryz.prog 77 #[.string s, .string ⟨#[105]⟩] W fun e w' => e = .returned (.tuple #[.string t, .bool false]) ∧ W = w') := fun W => ⟨_, (Tryz.strings_CutSuffix s ⟨#[105]⟩ W (by omega)).mono fun e w' ⟨he, hw⟩ => ⟨by rw [he]; show Ending.returned (.tuple #[_, .bool (Lib.hasSuffix s.data.toList [105])]) = _; rw [hg.ni], hw.symm⟩⟩
  have hsh := hg.sh
  have HT : Hid (∀ W (v : VR), v.r = r → v.ok W → Calls Tryz.prog 80 #[v.val] W fun e w' => e = .returned (.string s) ∧ Below W.heap.size W w') := fun W v hv hW => by
    have h := vtext_ v (by rw [hv]; exact hsh) W hW
    rw [hv, ← hg.tx] at h
    exact h
  have HB1 : Hid (∀ W A c D d, RIn W r A c D d → Calls Tryz.prog 81 #[r.val A c D d] W fun e w' => e = .returned (.bool false) ∧ Below W.heap.size W w') := fun W A c D d h => rbig_ r hsh A D c d W h
  have HB2 : Hid (∀ W B b E f, NaIn W B b 0 → NaIn W E f 1 → Calls Tryz.prog 81 #[.agg #[.bool false, .slice B 0 b, .slice E 1 f]] W fun e w' => e = .returned (.bool false) ∧ Below W.heap.size W w') := fun W B b E f h1 h2 => by
    have h := rbig_ VR.zer ⟨by decide, by decide, by decide⟩ B E b f W ⟨h1, h2⟩
    simp only [Rat9.val, len0, len1] at h
    exact h
  have e1 : (s.toList != s.toList) = false := by simp
  clear hM hg hsh
  obtain ⟨rm, rn, rd⟩ := r
  simp only [Rat9.val] at HB1
  go_enter Tryz.func47, Tryz.ntmps47
  go_wp2_with fail
  obtain ⟨t, HCt⟩ := HC.out _
  refine HCt.mono ?_
  clear HCt
  rintro e w1 ⟨rfl, rfl⟩
  go_wp2_with fail
  refine (HP.out _ (HM.out.below (show Below w.heap.size w _ from (by repeat (first | exact Below.refl _ _ | assumption | refine below_drewN ?_ _ | refine Below.drew ?_ | refine Below.setCell ?_ (by first | omega | (simp; done) | (simp; omega)) _ | refine Below.alloc ?_ (by first | omega | (simp; done) | (simp; omega)) _))) (Nat.le_refl _))).mono ?_
  rintro e w1 ⟨A, c, D, d, rfl, hn, hd, hb⟩
  have HN1 := Lib.hid hn
  have HD1 := Lib.hid hd
  have Z1 := Lib.hid ((zv_new w).keep hb)
  have HW1 : Hid (Below w.heap.size w w1) := (show Below w.heap.size w _ from (by repeat (first | exact Below.refl _ _ | assumption | refine below_drewN ?_ _ | refine Below.drew ?_ | refine Below.setCell ?_ (by first | omega | (simp; done) | (simp; omega)) _ | refine Below.alloc ?_ (by first | omega | (simp; done) | (simp; omega)) _))).trans (hb.mono (by simp))
  have hz1 : w.heap.size + 1 ≤ w1.heap.size := by have := hb.size; simp at this; omega
  have hz1' : w.heap.size < w1.heap.size := hz1
  clear hn hd hb
  go_wp2_with fail
  refine (HZ.out _ (HM.out.below (show Below w.heap.size w _ from (by repeat (first | exact Below.refl _ _ | exact (HW1).out | refine below_drewN ?_ _ | refine Below.drew ?_ | refine Below.setCell ?_ (by first | omega | (simp; done) | (simp; omega)) _ | refine Below.alloc ?_ (by first | omega | (simp; done) | (simp; omega)) _))) (Nat.le_refl _))).mono ?_
  rintro e w2 ⟨B, b, E, f, rfl, hn, hd, hb⟩
  obtain ⟨hc2, hf2⟩ := bcell hb
  have HN2 := Lib.hid hn
  have HD2 := Lib.hid hd
  have Hb2 := Lib.hid hb
  have hz2 : w1.heap.size + 1 ≤ w2.heap.size := by have := hb.size; simp at this; omega
  have hz2' : w1.heap.size < w2.heap.size := hz2
  clear hn hd hb
  go_wp2_with fail
  obtain ⟨W2, hW2⟩ : ∃ W2, ((w2.alloc (.cells #[.bool false, .slice B 0 b, .slice E 1 f] 69)).alloc (.cells #[.bool rm, .slice A (dg rn).length c, .slice D (dg rd).length d, .bool false, .slice B 0 b, .slice E 1 f] 71)) = W2 := ⟨_, rfl⟩
  have HX : Hid (Below w2.heap.size w2 W2) := by show Below _ _ _; rw [← hW2]; exact (by repeat (first | exact Below.refl _ _ | assumption | refine below_drewN ?_ _ | refine Below.drew ?_ | refine Below.setCell ?_ (by first | omega | (simp; done) | (simp; omega)) _ | refine Below.alloc ?_ (by first | omega | (simp; done) | (simp; omega)) _))
  have H12 : Hid (Below w1.heap.size w1 W2) := (show Below w1.heap.size w1 _ from (Below.refl _ _).alloc (Nat.le_refl _) _).trans ((Hb2.out.trans (HX.out.mono Hb2.out.size)).mono (by simp))
  have hX2 : w2.heap.size + 2 ≤ W2.heap.size := by rw [← hW2]; simp
  have g1 : w1.heap.size < W2.heap.size := by omega
  have g2 : w2.heap.size < W2.heap.size := by omega
  have g3 : w2.heap.size + 1 < W2.heap.size := by omega
  have x0 : W2.cell? ⟨w1.heap.size, 0, none⟩ = some (.bool rm) := (HX.out.cell (p := ⟨w1.heap.size, 0, none⟩) hz2').trans ((hc2 _ 0 (by simp)).trans (by simp [go_sem]))
  have x1 : W2.cell? ⟨w1.heap.size, 1, none⟩ = some (.slice A (dg rn).length c) := (HX.out.cell (p := ⟨w1.heap.size, 1, none⟩) hz2').trans ((hc2 _ 1 (by simp)).trans (by simp [go_sem]))
  have x2 : W2.cell? ⟨w1.heap.size, 2, none⟩ = some (.slice D (dg rd).length d) := (HX.out.cell (p := ⟨w1.heap.size, 2, none⟩) hz2').trans ((hc2 _ 2 (by simp)).trans (by simp [go_sem]))
  have y0 : W2.cell? ⟨w2.heap.size, 0, none⟩ = some (.bool false) := by rw [← hW2]; simp [go_sem]
  have y1 : W2.cell? ⟨w2.heap.size, 1, none⟩ = some (.slice B 0 b) := by rw [← hW2]; simp [go_sem]
  have y2 : W2.cell? ⟨w2.heap.size, 2, none⟩ = some (.slice E 1 f) := by rw [← hW2]; simp [go_sem]
  have v0 : W2.cell? ⟨w2.heap.size + 1, 0, none⟩ = some (.bool rm) := by rw [← hW2]; simp [go_sem]
  have v1 : W2.cell? ⟨w2.heap.size + 1, 1, none⟩ = some (.slice A (dg rn).length c) := by rw [← hW2]; simp [go_sem]
  have v2 : W2.cell? ⟨w2.heap.size + 1, 2, none⟩ = some (.slice D (dg rd).length d) := by rw [← hW2]; simp [go_sem]
  have v3 : W2.cell? ⟨w2.heap.size + 1, 3, none⟩ = some (.bool false) := by rw [← hW2]; simp [go_sem]
  have v4 : W2.cell? ⟨w2.heap.size + 1, 4, none⟩ = some (.slice B 0 b) := by rw [← hW2]; simp [go_sem]
  have v5 : W2.cell? ⟨w2.heap.size + 1, 5, none⟩ = some (.slice E 1 f) := by rw [← hW2]; simp [go_sem]
  rw [hW2]
  clear hW2 hc2 hf2
  have HOK : Hid (VR.ok W2 ⟨⟨rm, rn, rd⟩, A, c, D, d, B, b, E, f⟩) := ⟨HN1.out.below H12.out, HD1.out.below H12.out, HN2.out.below HX.out, HD2.out.below HX.out⟩
  refine (HT.out W2 ⟨⟨rm, rn, rd⟩, A, c, D, d, B, b, E, f⟩ rfl HOK.out).mono ?_
  rintro e w3 ⟨rfl, hb⟩
  have H3 := Lib.hid hb
  obtain ⟨hc3, hf3⟩ := bcell hb
  clear hb
  go_wp2_with fail
  refine (HB1.out _ A c D d ⟨HOK.out.n.below H3.out, HOK.out.d.below H3.out⟩).mono ?_
  rintro e w4 ⟨rfl, hb⟩
  have H4 := Lib.hid (H3.out.trans (hb.mono H3.out.size))
  clear hb hc3 hf3
  obtain ⟨hc4, hf4⟩ := bcell H4.out
  go_wp2_with fail
  refine (HB2.out _ B b E f (HOK.out.z.below H4.out) (HOK.out.o.below H4.out)).mono ?_
  rintro e w5 ⟨rfl, hb⟩
  have H5 := Lib.hid (H4.out.trans (hb.mono H4.out.size))
  clear hb hc4 hf4
  obtain ⟨hc5, hf5⟩ := bcell H5.out
  have H15 := Lib.hid (H12.out.trans (H5.out.mono (by omega)))
  have Z5 := Z1.out.keep H15.out
  have HZ5 := Lib.hid Z5
  obtain ⟨q0, q1, q2, q3, q4, q5, f0, f1, f2, f3, f4, f5, hlt, -⟩ := Z5
  have HOK5 := Lib.hid (HOK.out.below H5.out)
  have HW5 := Lib.hid (HW1.out.trans (H15.out.mono (by omega)))
  have k0 := (hc5 _ 0 g3).trans v0
  have k1 := (hc5 _ 1 g3).trans v1
  have k2 := (hc5 _ 2 g3).trans v2
  have k3 := (hc5 _ 3 g3).trans v3
  have k4 := (hc5 _ 4 g3).trans v4
  have k5 := (hc5 _ 5 g3).trans v5
  clear hc5 hf5 x0 x1 x2 y0 y1 y2 v0 v1 v2 v3 v4 v5
  go_wp2_with fail
  refine bodyPost_ret (v := .tuple #[.agg #[.bool rm, .slice A (dg rn).length c, .slice D (dg rd).length d, .bool false, .slice B 0 b, .slice E 1 f], .bool true]) ?h1 rfl ?h2
  case h1 => simp [results, Tryz.results47, go_sem, q0, q1, q2, q3, q4, q5]
  case h2 =>
    refine ⟨⟨⟨rm, rn, rd⟩, A, c, D, d, B, b, E, f⟩, rfl, rfl, ⟨?_, ?_, ?_, ?_⟩, ?_⟩
    · with_reducible exact zv_keeps HZ5.out HOK5.out.n _ _ _ _ _ _
    · with_reducible exact zv_keeps HZ5.out HOK5.out.d _ _ _ _ _ _
    · with_reducible exact zv_keeps HZ5.out HOK5.out.z _ _ _ _ _ _
    · with_reducible exact zv_keeps HZ5.out HOK5.out.o _ _ _ _ _ _
    · with_reducible exact zv_below HW5.out (Nat.le_refl _) _ _ _ _ _ _
end Go.Proofs.YtpphnnijnnfngaaGreatDoor

/-
  Numbers of package num: the walks of put, Of (short numbers), Check, IsReal (valid real numbers).
-/
namespace Go.Proofs.YtpphnnijnnfngaaGreatDoor
open Go.RowKit Al Nat9

set_option maxRecDepth 100000 in
set_option maxHeartbeats 4000000 in
theorem put_ (v : VR) (hr : Rsh v.r) (w : World) (h : v.ok w) : Calls Tryz.prog 48 #[v.val] w fun e w' => e = .returned (.tuple #[.string (bT (txR v.r)), .int .i64 0]) ∧ Below w.heap.size w w' := by
  have HOK := Lib.hid h
  have HT : Hid (∀ W, v.ok W → Calls Tryz.prog 80 #[v.val] W fun e w' => e = .returned (.string (bT (txR v.r))) ∧ Below W.heap.size W w') := fun W hW => vtext_ v hr W hW
  have HB1 : Hid (∀ W, v.ok W → Calls Tryz.prog 81 #[v.r.val v.A v.c v.D v.d] W fun e w' => e = .returned (.bool false) ∧ Below W.heap.size W w') := fun W h => rbig_ v.r hr v.A v.D v.c v.d W ⟨h.n, h.d⟩
  have HB2 : Hid (∀ W, v.ok W → Calls Tryz.prog 81 #[.agg #[.bool false, .slice v.B 0 v.b, .slice v.E 1 v.f]] W fun e w' => e = .returned (.bool false) ∧ Below W.heap.size W w') := fun W h => by
    have h := rbig_ VR.zer ⟨by decide, by decide, by decide⟩ v.B v.E v.b v.f W ⟨h.z, h.o⟩
    simp only [Rat9.val, len0, len1] at h
    exact h
  clear h hr
  obtain ⟨R, hR⟩ : ∃ R, bT (txR v.r) = R := ⟨_, rfl⟩
  rw [hR] at HT ⊢
  clear hR
  obtain ⟨⟨rm, rn, rd⟩, A, c, D, d, B, b, E, f⟩ := v
  simp only [VR.val, Rat9.val] at HT HB1 HB2 ⊢
  go_enter Tryz.func48, Tryz.ntmps48
  go_wp2_with fail
  refine (HB1.out _ (HOK.out.below (by repeat (first | exact Below.refl _ _ | assumption | refine below_drewN ?_ _ | refine Below.drew ?_ | refine Below.setCell ?_ (by first | omega | (simp; done) | (simp; omega)) _ | refine Below.alloc ?_ (by first | omega | (simp; done) | (simp; omega)) _)))).mono ?_
  rintro e w1 ⟨rfl, hb1⟩
  obtain ⟨hc1, hf1⟩ := bcell hb1
  have HW1 : Hid (Below w.heap.size w w1) := (show Below w.heap.size w _ from (by repeat (first | exact Below.refl _ _ | assumption | refine below_drewN ?_ _ | refine Below.drew ?_ | refine Below.setCell ?_ (by first | omega | (simp; done) | (simp; omega)) _ | refine Below.alloc ?_ (by first | omega | (simp; done) | (simp; omega)) _))).trans (hb1.mono (by first | omega | (simp; done) | (simp; omega)))
  have hz1 : w.heap.size + 1 ≤ w1.heap.size := by have := hb1.size; simp at this; omega
  have hz1' : w.heap.size < w1.heap.size := hz1
  clear hb1
  go_wp2_with fail
  refine (HB2.out _ (HOK.out.below (by repeat (first | exact Below.refl _ _ | exact (HW1).out | refine below_drewN ?_ _ | refine Below.drew ?_ | refine Below.setCell ?_ (by first | omega | (simp; done) | (simp; omega)) _ | refine Below.alloc ?_ (by first | omega | (simp; done) | (simp; omega)) _)))).mono ?_
  rintro e w2 ⟨rfl, hb2⟩
  obtain ⟨hc2, hf2⟩ := bcell hb2
  have HW2 : Hid (Below w.heap.size w w2) := HW1.out.trans (hb2.mono HW1.out.size)
  have hz2 : w1.heap.size ≤ w2.heap.size := hb2.size
  clear hb2
  go_wp2_with fail
  refine (HT.out _ (HOK.out.below (by repeat (first | exact Below.refl _ _ | exact (HW2).out | refine below_drewN ?_ _ | refine Below.drew ?_ | refine Below.setCell ?_ (by first | omega | (simp; done) | (simp; omega)) _ | refine Below.alloc ?_ (by first | omega | (simp; done) | (simp; omega)) _)))).mono ?_
  rintro e w3 ⟨rfl, hb3⟩
  have HW3 : Hid (Below w.heap.size w w3) := HW2.out.trans (hb3.mono HW2.out.size)
  clear hb3
  go_wp2_with fail
  go_ret2
  exact ⟨rfl, HW3.out⟩
theorem red_short {m : Bool} {n d : Nat} (hn : n < 100) (hd : d < 100) (h0 : 0 < d) : Rsh (red m n d) := by
  unfold red
  split
  · exact ⟨by decide, by decide, by decide⟩
  · have hg := Nat.gcd_pos_of_pos_right n h0
    have hle := Nat.le_of_dvd h0 (Nat.gcd_dvd_right n d)
    exact ⟨Nat.lt_of_le_of_lt (Nat.div_le_self _ _) hn, Nat.lt_of_le_of_lt (Nat.div_le_self _ _) hd, Nat.div_pos hle hg⟩
set_option maxRecDepth 100000 in
set_option maxHeartbeats 4000000 in
theorem Of_ (n d : Nat) (hn : n < 100) (hd : d < 100) (h0 : 0 < d) (w : World) : Calls Tryz.prog 28 #[.int .i64 (n : Int), .int .i64 (d : Int)] w fun e w' => e = .returned (.tuple #[.string (bT (txR (ofI n d))), .int .i64 0]) ∧ Below w.heap.size w w' := by
  have HL := Lib.hid len1
  have hsh : Rsh (ofI n d) := red_short hn hd h0
  have h1 : ((d : Int) == 0) = false := beq_eq_false_iff_ne.2 (by omega)
  have HPT : Hid (∀ W (v : VR), v.r = ofI n d → v.ok W → Calls Tryz.prog 48 #[v.val] W fun e w' => e = .returned (.tuple #[.string (bT (txR (ofI n d))), .int .i64 0]) ∧ Below W.heap.size W w') := fun W v hv hW => by
    have h := put_ v (by rw [hv]; exact hsh) W hW
    rw [hv] at h
    exact h
  have HN := Lib.hid (whole_ n (by omega))
  have HD := Lib.hid (whole_ d (by omega))
  have HR : Hid (∀ W A D c e, NaIn W A c n → NaIn W D e d → Calls Tryz.prog 60 #[.bool false, .slice A (dg n).length c, .slice D (dg d).length e] W (RatT (ofI n d) W)) := fun W A D c e h1 h2 => reduced_ false n d A D c e W h1 h2 (by omega) h0 (by omega)
  obtain ⟨r, hr⟩ : ∃ r, ofI n d = r := ⟨_, rfl⟩
  rw [hr] at HPT HR ⊢
  clear hr hsh
  go_enter Tryz.func28, Tryz.ntmps28
  go_wp2_with fail
  refine (HN.out _).mono ?_
  rintro e w1 ⟨A1, c1, D1, d1, rfl, hn1, hd1, hb1⟩
  have HN1 := Lib.hid hn1
  have HW1 := Lib.hid hb1
  clear hn1 hd1 hb1
  go_wp2_with fail
  refine (HD.out _).mono ?_
  rintro e w2 ⟨A2, c2, D2, d2, rfl, hn2, hd2, hb2⟩
  have HN2 := Lib.hid hn2
  have HN1b := Lib.hid (HN1.out.below hb2)
  have HW2 := Lib.hid (HW1.out.trans (hb2.mono HW1.out.size))
  have hzw2 := HW2.out.size
  clear hn2 hd2 hb2
  go_wp2_with fail
  refine (HR.out _ _ _ _ _ (HN1b.out.below (show Below w2.heap.size w2 _ from (by repeat (first | exact Below.refl _ _ | assumption | refine below_drewN ?_ _ | refine Below.drew ?_ | refine Below.setCell ?_ (by first | omega | (simp; done) | (simp; omega)) _ | refine Below.alloc ?_ (by first | omega | (simp; done) | (simp; omega)) _)))) (HN2.out.below (show Below w2.heap.size w2 _ from (by repeat (first | exact Below.refl _ _ | assumption | refine below_drewN ?_ _ | refine Below.drew ?_ | refine Below.setCell ?_ (by first | omega | (simp; done) | (simp; omega)) _ | refine Below.alloc ?_ (by first | omega | (simp; done) | (simp; omega)) _))))).mono ?_
  rintro e w3 ⟨A3, c3, D3, d3, rfl, hn3, hd3, hb3⟩
  have HN3 := Lib.hid hn3
  have HD3 := Lib.hid hd3
  have HW3 : Hid (Below w.heap.size w w3) := (show Below w.heap.size w _ from (by repeat (first | exact Below.refl _ _ | exact (HW2).out | refine below_drewN ?_ _ | refine Below.drew ?_ | refine Below.setCell ?_ (by first | omega | (simp; done) | (simp; omega)) _ | refine Below.alloc ?_ (by first | omega | (simp; done) | (simp; omega)) _))).trans (hb3.mono (by have := HW2.out.size; simp; omega))
  clear hn3 hd3 hb3
  go_wp2_with fail
  refine (plain_ r A3 D3 c3 d3 _ ⟨HN3.out, HD3.out⟩).mono ?_
  rintro e w4 ⟨v, hv, rfl, hok, hb4⟩
  have HOK := Lib.hid hok
  have HV := Lib.hid hv
  have HW4 := Lib.hid (HW3.out.trans (hb4.mono HW3.out.size))
  clear hok hv hb4
  go_wp2_with fail
  refine (HPT.out _ v HV.out HOK.out).mono ?_
  rintro e w5 ⟨rfl, hb5⟩
  have HW5 := Lib.hid (HW4.out.trans (hb5.mono HW4.out.size))
  clear hb5
  go_wp2_with fail
  go_ret2
  exact ⟨rfl, HW5.out⟩
set_option maxRecDepth 100000 in
set_option maxHeartbeats 4000000 in
theorem Check_ (s : ByteArray) (r : Rat9) (w : World) (hM : MxL w) (hg : GetOk s r) : Calls Tryz.prog 68 #[.string s] w fun e w' => e = .returned (.int .i64 0) ∧ Below w.heap.size w w' := by
  have HG := Lib.hid (get_ s r w hM hg)
  clear hM hg
  go_enter Tryz.func68, Tryz.ntmps68
  go_wp2_with fail
  refine HG.out.mono ?_
  rintro e w1 ⟨v, -, rfl, -, hb⟩
  have HW := Lib.hid hb
  have hzw := hb.size
  clear hb
  obtain ⟨⟨rm, rn, rd⟩, A, c, D, d, B, b, E, f⟩ := v
  go_wp2_with fail
  go_ret
  exact ⟨rfl, (by repeat (first | exact Below.refl _ _ | exact (HW).out | refine below_drewN ?_ _ | refine Below.drew ?_ | refine Below.setCell ?_ (by first | omega | (simp; done) | (simp; omega)) _ | refine Below.alloc ?_ (by first | omega | (simp; done) | (simp; omega)) _))⟩
set_option maxRecDepth 100000 in
set_option maxHeartbeats 4000000 in
theorem IsReal_ (s : ByteArray) (r : Rat9) (w : World) (hM : MxL w) (hg : GetOk s r) : Calls Tryz.prog 69 #[.string s] w fun e w' => e = .returned (.bool true) ∧ Below w.heap.size w w' := by
  have HG := Lib.hid (get_ s r w hM hg)
  clear hM hg
  go_enter Tryz.func69, Tryz.ntmps69
  go_wp2_with fail
  refine HG.out.mono ?_
  rintro e w1 ⟨v, -, rfl, -, hb⟩
  have HW := Lib.hid hb
  have hzw := hb.size
  clear hb
  have HI := Lib.hid (isReal_ v)
  obtain ⟨⟨rm, rn, rd⟩, A, c, D, d, B, b, E, f⟩ := v
  go_wp2_with fail
  refine (HI.out _).mono ?_
  rintro e w2 ⟨rfl, hb2⟩
  have HW2 : Hid (Below w.heap.size w w2) := (show Below w.heap.size w _ from (by repeat (first | exact Below.refl _ _ | exact (HW).out | refine below_drewN ?_ _ | refine Below.drew ?_ | refine Below.setCell ?_ (by first | omega | (simp; done) | (simp; omega)) _ | refine Below.alloc ?_ (by first | omega | (simp; done) | (simp; omega)) _))).trans (hb2.mono (by have := HW.out.size; first | omega | (simp; done) | (simp; omega)))
  clear hb2
  go_wp2_with fail
  go_ret
  exact ⟨rfl, HW2.out⟩
end Go.Proofs.YtpphnnijnnfngaaGreatDoor

/-
  Lists of real numbers of package num: the walks of all (get of each), reals' function, all (the real parts), reals, Cmp.
-/
namespace Go.Proofs.YtpphnnijnnfngaaGreatDoor
open Go.RowKit Al Nat9

theorem VR.ok.apartT {w w' : World} {v : VR} {row : Option Nat} (h : v.ok w) (hr : ∀ g, row = some g → ∃ cs T fr, w.heap[g]? = some (.cells cs T fr) ∧ T ≠ 157) (hg : w.grownBy w' row) : v.ok w' :=
  ⟨h.n.apartT hr hg, h.d.apartT hr hg, h.z.apartT hr hg, h.o.apartT hr hg⟩
theorem own_tag {w : World} {base e sz n : Nat} {v : Value} {xs : List Value} (h : w.ownsRow base e sz v n xs) (he : e ≠ 157) : ∀ g, v.ownBlock = some g → ∃ cs T fr, w.heap[g]? = some (.cells cs T fr) ∧ T ≠ 157 := by
  intro g hg
  rcases h.2 with ⟨rfl, _⟩ | ⟨g2, cap, cur, rfl, _, hh, _⟩
  · cases hg
  · cases hg
    exact ⟨cur, e, (0, 0), hh, he⟩
theorem heapAtNew (w : World) (o : Obj) {k : Nat} (h : k = w.heap.size) : (w.alloc o).heap[k]? = some o := by
  subst h
  exact heap_alloc_new w o
def VsC (vs : List VR) : List Value := vs.flatMap VR.cells
theorem VsC_snoc (vs : List VR) (v : VR) : VsC (vs ++ [v]) = VsC vs ++ v.cells := by simp [VsC]
theorem VR.one (v : VR) : ∀ u ∈ v.cells, u.oneCell' = true := by
  intro u hu
  simp [VR.cells] at hu
  rcases hu with rfl | rfl | rfl | rfl | rfl | rfl <;> rfl
theorem infoVal : (Tryz.prog.info? 71).map (fun i => (i.zero, i.size, i.bytes)) = some (some (.agg #[.bool false, .slice none 0 0, .slice none 0 0, .bool false, .slice none 0 0, .slice none 0 0]), 6, 112) := by kernel_rfl
theorem infoRat : (Tryz.prog.info? 69).map (fun i => (i.zero, i.size, i.bytes)) = some (some (.agg #[.bool false, .slice none 0 0, .slice none 0 0]), 3, 56) := by kernel_rfl
/-- Strings in memory. -/
def strs (L : List ByteArray) : List Value := L.map .string
theorem Sl.strAt {w : World} {B n c : Nat} {A : Option Addr} {L : List ByteArray} (h : Sl w B 1 A n c (strs L)) {k : Nat} (hk : k < L.length) : ∃ b off, A = some ⟨b, off, none⟩ ∧ b < B ∧ w.cell? ⟨b, off + k, none⟩ = some (.string L[k]) := by
  have hn : n = L.length := by have := h.len; simp [strs] at this; omega
  obtain ⟨b, off, e, hb, hc⟩ := h.at_ (by omega)
  exact ⟨b, off, e, hb, hc k _ (by simp [strs, hk])⟩
def A1Rel (rs : List Rat9) (w : World) (o i : Value) (wr : World) : Prop :=
  ∃ (vs : List VR) (A : Option Addr) (c : Nat), i = .int .i64 (vs.length : Int) ∧ o = .slice A vs.length c ∧ vs.length ≤ rs.length ∧ Hid (vs.map (·.r) = rs.take vs.length) ∧ Hid (∀ v ∈ vs, v.ok wr) ∧ Hid (wr.ownsRow w.heap.size 71 6 (.slice A vs.length c) vs.length (VsC vs)) ∧ Hid (Below w.heap.size w wr)
/-- Values are handed back, and that they are some. -/
def VsT (rs : List Rat9) (w : World) (e : Ending) (w' : World) : Prop :=
  ∃ (vs : List VR) (A : Option Addr) (c : Nat), e = .returned (.tuple #[.slice A vs.length c, .bool true]) ∧ vs.map (·.r) = rs ∧ (∀ v ∈ vs, v.ok w') ∧ Sl w' w'.heap.size 6 A vs.length c (VsC vs) ∧ Below w.heap.size w w'
set_option maxRecDepth 100000 in
set_option maxHeartbeats 4000000 in
theorem all1_ (L : List ByteArray) (rs : List Rat9) (hlen : rs.length = L.length) (hg : ∀ (k : Nat) (s : ByteArray) (r : Rat9), L[k]? = some s → rs[k]? = some r → GetOk s r) (hl : L.length ≤ 1000) (A : Option Addr) (c : Nat) (w : World) (hM : MxL w) (hL : Sl w w.heap.size 1 A L.length c (strs L)) :
    Calls Tryz.prog 50 #[.slice A L.length c, .func (.func 47) #[] #[]] w (VsT rs w) := by
  obtain ⟨i0, hi, hz0, hz1, hz2⟩ := info_parts infoVal
  have HG : Hid (∀ (k : Nat) (s : ByteArray) (r : Rat9), L[k]? = some s → rs[k]? = some r → ∀ W, MxL W → Calls Tryz.prog 47 #[.string s] W (VabT r W)) := fun k s r h1 h2 W hW => get_ s r W hW (hg k s r h1 h2)
  have HL := Lib.hid hL
  have HM := Lib.hid hM
  have hMs : 0 < w.heap.size := by obtain ⟨m, hm⟩ := hM; exact cell_lt hm
  have HLEN := Lib.hid hlen
  clear hg hL hM hlen
  go_enter Tryz.func50, Tryz.ntmps50
  go_wp2_with fail
  go_loopw [6, 13] (fun o i wr => A1Rel rs w o i wr) (fun _ i _ => L.length - (intOf i).toNat)
  case atStart => exact ⟨[], none, 0, by first | rfl | go_num, rfl, Nat.zero_le _, Lib.hid (by simp), Lib.hid (by simp), Lib.hid (World.ownsRow_nil _ _ _ _), Lib.hid (Below.refl _ _)⟩
  case round =>
    obtain ⟨vs, B, cc, rfl, rfl, hk, HV, HOK, HO, HW⟩ := hrel
    obtain ⟨k, hkk⟩ : ∃ k, vs.length = k := ⟨_, rfl⟩
    have HKK := Lib.hid hkk
    have hkl : k ≤ L.length := by rw [← HLEN.out, ← hkk]; exact hk
    have hsz := HW.out.size
    rw [hkk] at HV HO ⊢
    clear hkk hk
    by_cases hlt : k < L.length
    · obtain ⟨tb, tof, rfl, htb, c0⟩ := (HL.out.below HW.out).strAt hlt
      have hrk : k < rs.length := by rw [HLEN.out]; exact hlt
      obtain ⟨rk, hrk2⟩ : ∃ r, rs[k] = r := ⟨_, rfl⟩
      have HTK : Hid (rs.take (k + 1) = rs.take k ++ [rk]) := by show _ = _; rw [List.take_succ_eq_append_getElem hrk, hrk2]
      obtain ⟨sk, hsk⟩ : ∃ s, L[k] = s := ⟨_, rfl⟩
      have HGk := Lib.hid (HG.out k sk rk (by rw [List.getElem?_eq_getElem hlt, hsk]) (by rw [List.getElem?_eq_getElem hrk, hrk2]))
      rw [hsk] at c0
      clear hrk2 hsk hrk
      have hlt' : (k : Int) < (L.length : Int) := by omega
      have htb2 : tb < wr.heap.size := by omega
      go_wp2_with fail
      refine (HGk.out _ (HM.out.low HW.out hMs)).mono ?_
      rintro e w1 ⟨v, hv, rfl, hok, hb⟩
      have HV1 := Lib.hid hv
      have HOK1 := Lib.hid hok
      have HB1 := Lib.hid hb
      have hzw := hb.size
      have HO1 := Lib.hid (own_below HO.out (Nat.le_refl _) hb)
      have HVC : Hid (VsC (vs ++ [v]) = VsC vs ++ v.cells) := VsC_snoc vs v
      have HVO := Lib.hid (VR.one v)
      clear hv hok hb
      obtain ⟨⟨rm, rn, rd⟩, A2, c2, D2, d2, B2, b2, E2, f2⟩ := v
      go_wp2_with (at_builtin; go_must (refine wpList_append_lies _ rfl _ _ 112 rfl w.heap.size 71 i0 (.agg #[.bool false, .slice none 0 0, .slice none 0 0, .bool false, .slice none 0 0, .slice none 0 0]) 6 112 Tryz.underlying112 hi hz0 hz1 hz2 rfl (by decide) (.slice B k cc) k _ rfl (own_below HO1.out (Nat.le_refl _) (((Below.refl _ _).alloc (Nat.le_refl _) _).alloc (by simp) _)) _ 1 1 (VR.cells ⟨⟨rm, rn, rd⟩, A2, c2, D2, d2, B2, b2, E2, f2⟩) rfl rfl (World.news_of_block (heapAtNew _ _ (by simp))) HVO.out (by decide) (by unfold maxLen; omega) (by omega) (by simp; omega) _ rfl ?_); intro g cap w6 hown6 hg6 hat6 hlt6; have z6 := hg6.size; (try simp at z6))
      go_roundw
      case rel =>
        have HX1 : Below w1.heap.size w1 _ := ((Below.refl w1.heap.size w1).alloc (Nat.le_refl _) (.cells #[.bool rm, .slice A2 (dg rn).length c2, .slice D2 (dg rd).length d2, .bool false, .slice B2 0 b2, .slice E2 1 f2] 71)).alloc (by simp) (.cells #[.bool rm, .slice A2 (dg rn).length c2, .slice D2 (dg rd).length d2, .bool false, .slice B2 0 b2, .slice E2 1 f2] 71)
        have htag := own_tag (own_below HO1.out (Nat.le_refl _) HX1) (by decide)
        have hl1 : (vs ++ [(⟨⟨rm, rn, rd⟩, A2, c2, D2, d2, B2, b2, E2, f2⟩ : VR)]).length = k + 1 := by rw [List.length_append, HKK.out]; rfl
        refine ⟨vs ++ [⟨⟨rm, rn, rd⟩, A2, c2, D2, d2, B2, b2, E2, f2⟩], some ⟨g, 0, none⟩, cap, by rw [hl1]; go_num, by rw [hl1], by rw [hl1, HLEN.out]; omega, Lib.hid ?_, Lib.hid (fun u hu => ?_), Lib.hid (by rw [hl1, HVC.out]; exact hown6), Lib.hid ?_⟩
        · rw [hl1, HTK.out, List.map_append, HV.out, List.map_singleton]
          rw [show (⟨rm, rn, rd⟩ : Rat9) = rk from HV1.out]
        · rcases List.mem_append.1 hu with h | h
          · exact (((HOK.out u h).below HB1.out).below HX1).apartT htag hg6
          · rw [List.mem_singleton.1 h]
            exact (HOK1.out.below HX1).apartT htag hg6
        · exact (HW.out.trans ((HB1.out.trans (HX1.mono hzw)).mono hsz)).grown hg6 (by simp; omega) (fun g h => (own_lt HO1.out h).1)
      case measure => simp [intOf]; omega
    · obtain rfl : k = L.length := by omega
      go_wp2_with fail
      go_ret2
      refine ⟨vs, B, cc, by rw [HKK.out]; rfl, ?_, HOK.out, ?_, HW.out⟩
      · rw [HV.out, ← HLEN.out, List.take_length]
      · have h := Sl.of_own HO.out
        rw [HKK.out]
        exact h
end Go.Proofs.YtpphnnijnnfngaaGreatDoor

/-
  Lists of real numbers of package num: the walks of reals' function, all (the real parts), reals, Cmp.
-/
namespace Go.Proofs.YtpphnnijnnfngaaGreatDoor
open Go.RowKit Al Nat9

/-- A rational number is handed back, and that its value is real. -/
def R1T (v : VR) (w : World) (e : Ending) (w' : World) : Prop := e = .returned (.tuple #[.agg #[.bool v.r.m, .slice v.A (dg v.r.n).length v.c, .slice v.D (dg v.r.d).length v.d], .bool true]) ∧ NaIn w' v.A v.c v.r.n ∧ NaIn w' v.D v.d v.r.d ∧ Below w.heap.size w w'
theorem st3_below {w W : World} {b B : Nat} (h : Below b w W) (hB : b ≤ B) (p0 p1 p2 : Value) : Below b w (((W.setCell ⟨B, 0, none⟩ p0).setCell ⟨B, 1, none⟩ p1).setCell ⟨B, 2, none⟩ p2) := by
  iterate 3 refine Below.setCell ?_ hB _
  exact h
theorem st3_keeps {W : World} {B : Nat} (hno : ∀ j k z, W.cell? ⟨B, j, none⟩ ≠ some (.int k z)) {A : Option Addr} {c v : Nat} (hn : NaIn W A c v) (p0 p1 p2 : Value) :
    NaIn (((W.setCell ⟨B, 0, none⟩ p0).setCell ⟨B, 1, none⟩ p1).setCell ⟨B, 2, none⟩ p2) A c v := by
  refine hn.apart (B := B) hno (by simp) (fun b hb _ => ?_)
  rw [heap_store hb, heap_store hb, heap_store hb]
set_option maxRecDepth 100000 in
set_option maxHeartbeats 4000000 in
theorem reals1_ (v : VR) (w : World) (h : v.ok w) : Calls Tryz.prog 52 #[v.val] w (R1T v w) := by
  have HOK := Lib.hid h
  have HI := Lib.hid (isReal_ v)
  clear h
  obtain ⟨⟨rm, rn, rd⟩, A, c, D, d, B, b, E, f⟩ := v
  simp only [VR.val] at HI ⊢
  go_enter Tryz.func52, Tryz.ntmps52
  go_upto_region 1 with fail
  obtain ⟨Y, hY⟩ : ∃ Y, (w.alloc (.cells #[.bool rm, .slice A (dg rn).length c, .slice D (dg rd).length d, .bool false, .slice B 0 b, .slice E 1 f] 71)) = Y := ⟨_, rfl⟩
  have HY : Hid (Below w.heap.size w Y) := by show Below _ _ _; rw [← hY]; exact (by repeat (first | exact Below.refl _ _ | assumption | refine below_drewN ?_ _ | refine Below.drew ?_ | refine Below.setCell ?_ (by first | omega | (simp; done) | (simp; omega)) _ | refine Below.alloc ?_ (by first | omega | (simp; done) | (simp; omega)) _))
  have hYs : Y.heap.size = w.heap.size + 1 := by rw [← hY]; simp
  have y0 : Y.cell? ⟨w.heap.size, 0, none⟩ = some (.bool rm) := by rw [← hY]; simp [go_sem]
  have y1 : Y.cell? ⟨w.heap.size, 1, none⟩ = some (.slice A (dg rn).length c) := by rw [← hY]; simp [go_sem]
  have y2 : Y.cell? ⟨w.heap.size, 2, none⟩ = some (.slice D (dg rd).length d) := by rw [← hY]; simp [go_sem]
  have y3 : Y.cell? ⟨w.heap.size, 3, none⟩ = some (.bool false) := by rw [← hY]; simp [go_sem]
  have y4 : Y.cell? ⟨w.heap.size, 4, none⟩ = some (.slice B 0 b) := by rw [← hY]; simp [go_sem]
  have y5 : Y.cell? ⟨w.heap.size, 5, none⟩ = some (.slice E 1 f) := by rw [← hY]; simp [go_sem]
  rw [hY]
  clear hY
  obtain ⟨X, hX⟩ : ∃ X, (Y.alloc (.cells #[.bool false, .slice none 0 0, .slice none 0 0] 69)) = X := ⟨_, rfl⟩
  have HBX : Hid (∀ W, Below X.heap.size X W → Below (Y.heap.size + 1) (Y.alloc (.cells #[.bool false, .slice none 0 0, .slice none 0 0] 69)) W) := fun W hW => by rw [← hX] at hW; simpa using hW
  have HX : Hid (Below w.heap.size w X) := HY.out.trans (by rw [← hX]; exact (Below.refl _ _).alloc (by omega) _)
  have hXs : w.heap.size + 2 ≤ X.heap.size := by rw [← hX]; simp; omega
  have hlt0 : w.heap.size < Y.heap.size := by omega
  have e0 : ∀ o, X.cell? ⟨w.heap.size, o, none⟩ = Y.cell? ⟨w.heap.size, o, none⟩ := fun o => by rw [← hX]; exact ((Below.refl Y.heap.size Y).alloc (Nat.le_refl _) _).cell (p := ⟨w.heap.size, o, none⟩) hlt0
  have x0 := (e0 0).trans y0
  have x1 := (e0 1).trans y1
  have x2 := (e0 2).trans y2
  have x3 := (e0 3).trans y3
  have x4 := (e0 4).trans y4
  have x5 := (e0 5).trans y5
  have hx0 : w.heap.size < X.heap.size := by omega
  have hXl : w.heap.size ≤ X.heap.size := by omega
  have HYS := Lib.hid hYs
  rw [hX]
  clear hX e0 y0 y1 y2 y3 y4 y5 hYs hlt0 hXs
  go_region_held3 (fun w' => ∀ o, w'.cell? ⟨w.heap.size, o, none⟩ = X.cell? ⟨w.heap.size, o, none⟩) (first | (with_reducible exact kN) | (intro o; simp only [World.cell?_drew]; done) | (intro o; simp [go_sem, kN]; done))
    (first
      | (go_at_call 53; refine (HI.out _).mono ?_; intro e w4 hnt; obtain ⟨he, hbn⟩ := hnt; subst he; have HB4 : Hid (Below X.heap.size X w4) := (show Below X.heap.size X _ from (by (repeat (first | exact Below.refl _ _ | assumption | refine below_drewN ?_ _ | refine Below.drew ?_ | refine Below.setCell ?_ (by first | omega | (simp; done) | (simp; omega)) _ | refine Below.alloc ?_ (by first | omega | (simp; done) | (simp; omega)) _)))).trans (hbn.mono (by first | omega | (simp; done) | (simp; omega))); have kN := (fun o => HB4.out.cell (p := ⟨w.heap.size, o, none⟩) hx0); obtain ⟨hno, q0, q1, q2, f0, f1, f2, hlt⟩ := box_cells (HBX.out _ HB4.out); rw [HYS.out] at hno q0 q1 q2 f0 f1 f2 hlt; have HNO := Lib.hid hno; clear hbn hno))
  have HW4 : Hid (Below w.heap.size w w4) := HX.out.trans (HB4.out.mono hXl)
  go_wp2_with fail
  refine bodyPost_ret (v := .tuple #[.agg #[.bool rm, .slice A (dg rn).length c, .slice D (dg rd).length d], .bool true]) ?h1 rfl ?h2
  case h1 => simp [results, Tryz.results52, go_sem, q0, q1, q2]
  case h2 =>
    refine ⟨rfl, ?_, ?_, ?_⟩
    · with_reducible exact st3_keeps HNO.out (HOK.out.n.below HW4.out) _ _ _
    · with_reducible exact st3_keeps HNO.out (HOK.out.d.below HW4.out) _ _ _
    · with_reducible exact st3_below HW4.out (Nat.le_succ _) _ _ _
/-- Where a rational number's digits lie. -/
structure RR where
  r : Rat9
  A : Option Addr
  c : Nat
  D : Option Addr
  d : Nat
def RR.cells (v : RR) : List Value := [.bool v.r.m, .slice v.A (dg v.r.n).length v.c, .slice v.D (dg v.r.d).length v.d]
def RR.ok (w : World) (v : RR) : Prop := RIn w v.r v.A v.c v.D v.d
def RsC (vs : List RR) : List Value := vs.flatMap RR.cells
theorem RsC_snoc (vs : List RR) (v : RR) : RsC (vs ++ [v]) = RsC vs ++ v.cells := by simp [RsC]
theorem RR.one (v : RR) : ∀ u ∈ v.cells, u.oneCell' = true := by
  intro u hu
  simp [RR.cells] at hu
  rcases hu with rfl | rfl | rfl <;> rfl
theorem VsC_at {vs : List VR} {k : Nat} (hk : k < vs.length) {j : Nat} (hj : j < 6) : (VsC vs)[k * 6 + j]? = (VR.cells vs[k])[j]? := by
  induction vs generalizing k with
  | nil => simp at hk
  | cons v t ih =>
    have e : VsC (v :: t) = v.cells ++ VsC t := by simp [VsC]
    have hl : v.cells.length = 6 := rfl
    rw [e]
    cases k with
    | zero => rw [List.getElem?_append_left (by omega)]; simp
    | succ k =>
      rw [List.getElem?_append_right (by omega), hl, show (k + 1) * 6 + j - 6 = k * 6 + j by omega]
      simp only [List.getElem_cons_succ]
      exact ih (by simpa using hk)
theorem VsC_len (vs : List VR) : (VsC vs).length = vs.length * 6 := by
  induction vs with
  | nil => rfl
  | cons v t ih => rw [show VsC (v :: t) = v.cells ++ VsC t by simp [VsC], List.length_append, ih, List.length_cons]; show 6 + _ = _; omega
theorem Sl.vrAt {w : World} {B n c : Nat} {A : Option Addr} {vs : List VR} (h : Sl w B 6 A n c (VsC vs)) {k : Nat} (hk : k < vs.length) : ∃ b off, A = some ⟨b, off, none⟩ ∧ b < B ∧ w.cell? ⟨b, off + k * 6, none⟩ = some (.bool vs[k].r.m) ∧
    w.cell? ⟨b, off + k * 6 + 1, none⟩ = some (.slice vs[k].A (dg vs[k].r.n).length vs[k].c) ∧ w.cell? ⟨b, off + k * 6 + 2, none⟩ = some (.slice vs[k].D (dg vs[k].r.d).length vs[k].d) ∧
    w.cell? ⟨b, off + k * 6 + 3, none⟩ = some (.bool false) ∧ w.cell? ⟨b, off + k * 6 + 4, none⟩ = some (.slice vs[k].B 0 vs[k].b) ∧ w.cell? ⟨b, off + k * 6 + 5, none⟩ = some (.slice vs[k].E 1 vs[k].f) := by
  have hn : n = vs.length := by have := h.len; rw [VsC_len] at this; omega
  obtain ⟨b, off, e, hb, hc⟩ := h.at_ (by omega)
  refine ⟨b, off, e, hb, ?_, ?_, ?_, ?_, ?_, ?_⟩
  · have := hc (k * 6 + 0) (.bool vs[k].r.m) (by rw [VsC_at hk (by omega)]; rfl); simpa using this
  · have := hc (k * 6 + 1) _ ((VsC_at hk (by omega)).trans rfl); simpa [Nat.add_assoc] using this
  · have := hc (k * 6 + 2) _ ((VsC_at hk (by omega)).trans rfl); simpa [Nat.add_assoc] using this
  · have := hc (k * 6 + 3) _ ((VsC_at hk (by omega)).trans rfl); simpa [Nat.add_assoc] using this
  · have := hc (k * 6 + 4) _ ((VsC_at hk (by omega)).trans rfl); simpa [Nat.add_assoc] using this
  · have := hc (k * 6 + 5) _ ((VsC_at hk (by omega)).trans rfl); simpa [Nat.add_assoc] using this
end Go.Proofs.YtpphnnijnnfngaaGreatDoor

/-
  Lists of real numbers of package num: the walks of all (the real parts), reals, Cmp.
-/
namespace Go.Proofs.YtpphnnijnnfngaaGreatDoor
open Go.RowKit Al Nat9

theorem RR.ok.below {w w' : World} {v : RR} (h : v.ok w) (hb : Below w.heap.size w w') : v.ok w' := RIn.below h hb
theorem RR.ok.apartT {w w' : World} {v : RR} {row : Option Nat} (h : v.ok w) (hr : ∀ g, row = some g → ∃ cs T fr, w.heap[g]? = some (.cells cs T fr) ∧ T ≠ 157) (hg : w.grownBy w' row) : v.ok w' :=
  ⟨h.n.apartT hr hg, h.d.apartT hr hg⟩
def A2Rel (rs : List Rat9) (w : World) (o i : Value) (wr : World) : Prop :=
  ∃ (qs : List RR) (A : Option Addr) (c : Nat), i = .int .i64 (qs.length : Int) ∧ o = .slice A qs.length c ∧ qs.length ≤ rs.length ∧ Hid (qs.map (·.r) = rs.take qs.length) ∧ Hid (∀ v ∈ qs, v.ok wr) ∧ Hid (wr.ownsRow w.heap.size 69 3 (.slice A qs.length c) qs.length (RsC qs)) ∧ Hid (Below w.heap.size w wr)
/-- Rational numbers are handed back, and that they are some. -/
def QsT (f : Value) (rs : List Rat9) (w : World) (e : Ending) (w' : World) : Prop :=
  ∃ (qs : List RR) (A : Option Addr) (c : Nat), e = .returned (.tuple #[.slice A qs.length c, f]) ∧ qs.map (·.r) = rs ∧ (∀ v ∈ qs, v.ok w') ∧ Sl w' w'.heap.size 3 A qs.length c (RsC qs) ∧ Below w.heap.size w w'
set_option maxRecDepth 100000 in
set_option maxHeartbeats 4000000 in
theorem all2_ (vs : List VR) (hl : vs.length ≤ 1000) (A : Option Addr) (c : Nat) (w : World) (hok : ∀ v ∈ vs, v.ok w) (hL : Sl w w.heap.size 6 A vs.length c (VsC vs)) :
    Calls Tryz.prog 51 #[.slice A vs.length c, .func (.func 52) #[] #[]] w (QsT (.bool true) (vs.map (·.r)) w) := by
  obtain ⟨i0, hi, hz0, hz1, hz2⟩ := info_parts infoRat
  have HOKV := Lib.hid hok
  have HL := Lib.hid hL
  obtain ⟨rs, hrs⟩ : ∃ rs, vs.map (·.r) = rs := ⟨_, rfl⟩
  have HRS := Lib.hid hrs
  have HLEN : Hid (rs.length = vs.length) := by show _ = _; rw [← hrs, List.length_map]
  rw [hrs]
  clear hok hL hrs
  go_enter Tryz.func51, Tryz.ntmps51
  go_wp2_with fail
  go_loopw [6, 13] (fun o i wr => A2Rel rs w o i wr) (fun _ i _ => vs.length - (intOf i).toNat)
  case atStart => exact ⟨[], none, 0, by first | rfl | go_num, rfl, Nat.zero_le _, Lib.hid (by simp), Lib.hid (by simp), Lib.hid (World.ownsRow_nil _ _ _ _), Lib.hid (Below.refl _ _)⟩
  case round =>
    obtain ⟨qs, B, cc, rfl, rfl, hk, HV, HOK, HO, HW⟩ := hrel
    obtain ⟨k, hkk⟩ : ∃ k, qs.length = k := ⟨_, rfl⟩
    have HKK := Lib.hid hkk
    have hkl : k ≤ vs.length := by rw [← HLEN.out, ← hkk]; exact hk
    have hsz := HW.out.size
    rw [hkk] at HV HO ⊢
    clear hkk hk
    by_cases hlt : k < vs.length
    · obtain ⟨tb, tof9, rfl, htb, c0, c1, c2, c3, c4, c5⟩ := (HL.out.below HW.out).vrAt hlt
      have hrk : k < rs.length := by rw [HLEN.out]; exact hlt
      have hokv := (HOKV.out vs[k] (List.getElem_mem hlt)).below HW.out
      obtain ⟨v, hv⟩ : ∃ v, vs[k] = v := ⟨_, rfl⟩
      have HTK : Hid (rs.take (k + 1) = rs.take k ++ [v.r]) := by
        show _ = _
        rw [List.take_succ_eq_append_getElem hrk]
        congr 2
        have e := getElem_congr_coll (i := k) HRS.out.symm (w := hrk)
        rw [e, List.getElem_map, hv]
      rw [hv] at hokv c0 c1 c2 c4 c5
      have HC := Lib.hid (fun W h => reals1_ v W h)
      have HOKv := Lib.hid hokv
      clear hv hrk hokv
      obtain ⟨⟨rm, rn, rd⟩, A2, d2, D2, e2, B2, b2, E2, f2⟩ := v
      simp only at c0 c1 c2 c4 c5
      have hlt' : (k : Int) < (vs.length : Int) := by omega
      have htb2 : tb < wr.heap.size := by omega
      go_wp2_with fail
      refine (HC.out _ (HOKv.out.below (by repeat (first | exact Below.refl _ _ | assumption | refine below_drewN ?_ _ | refine Below.drew ?_ | refine Below.setCell ?_ (by first | omega | (simp; done) | (simp; omega)) _ | refine Below.alloc ?_ (by first | omega | (simp; done) | (simp; omega)) _)))).mono ?_
      rintro e w1 ⟨rfl, hn1, hd1, hb⟩
      have HOK1 : Hid (RR.ok w1 ⟨⟨rm, rn, rd⟩, A2, d2, D2, e2⟩) := ⟨hn1, hd1⟩
      have HB1 : Hid (Below wr.heap.size wr w1) := (show Below wr.heap.size wr _ from (by repeat (first | exact Below.refl _ _ | assumption | refine below_drewN ?_ _ | refine Below.drew ?_ | refine Below.setCell ?_ (by first | omega | (simp; done) | (simp; omega)) _ | refine Below.alloc ?_ (by first | omega | (simp; done) | (simp; omega)) _))).trans (hb.mono (by simp))
      have hzw := HB1.out.size
      have HO1 := Lib.hid (own_below HO.out (Nat.le_refl _) HB1.out)
      have HVC : Hid (RsC (qs ++ [⟨⟨rm, rn, rd⟩, A2, d2, D2, e2⟩]) = RsC qs ++ RR.cells ⟨⟨rm, rn, rd⟩, A2, d2, D2, e2⟩) := RsC_snoc qs _
      have HVO := Lib.hid (RR.one ⟨⟨rm, rn, rd⟩, A2, d2, D2, e2⟩)
      clear hn1 hd1 hb
      go_wp2_with (at_builtin; go_must (refine wpList_append_lies _ rfl _ _ 72 rfl w.heap.size 69 i0 (.agg #[.bool false, .slice none 0 0, .slice none 0 0]) 3 56 Tryz.underlying72 hi hz0 hz1 hz2 rfl (by decide) (.slice B k cc) k _ rfl (own_below HO1.out (Nat.le_refl _) (((Below.refl _ _).alloc (Nat.le_refl _) _).alloc (by simp) _)) _ 1 1 (RR.cells ⟨⟨rm, rn, rd⟩, A2, d2, D2, e2⟩) rfl rfl (World.news_of_block (heapAtNew _ _ (by simp))) HVO.out (by decide) (by unfold maxLen; omega) (by omega) (by simp; omega) _ rfl ?_); intro g cap w6 hown6 hg6 hat6 hlt6; have z6 := hg6.size; (try simp at z6))
      go_roundw
      case rel =>
        have HX1 : Below w1.heap.size w1 _ := ((Below.refl w1.heap.size w1).alloc (Nat.le_refl _) (.cells #[.bool rm, .slice A2 (dg rn).length d2, .slice D2 (dg rd).length e2] 69)).alloc (by simp) (.cells #[.bool rm, .slice A2 (dg rn).length d2, .slice D2 (dg rd).length e2] 69)
        have htag := own_tag (own_below HO1.out (Nat.le_refl _) HX1) (by decide)
        have hl1 : (qs ++ [(⟨⟨rm, rn, rd⟩, A2, d2, D2, e2⟩ : RR)]).length = k + 1 := by rw [List.length_append, HKK.out]; rfl
        refine ⟨qs ++ [⟨⟨rm, rn, rd⟩, A2, d2, D2, e2⟩], some ⟨g, 0, none⟩, cap, by rw [hl1]; go_num, by rw [hl1], by rw [hl1, HLEN.out]; omega, Lib.hid ?_, Lib.hid (fun u hu => ?_), Lib.hid (by rw [hl1, HVC.out]; exact hown6), Lib.hid ?_⟩
        · rw [hl1, HTK.out, List.map_append, HV.out, List.map_singleton]
        · rcases List.mem_append.1 hu with h | h
          · exact (((HOK.out u h).below HB1.out).below HX1).apartT htag hg6
          · rw [List.mem_singleton.1 h]
            exact (HOK1.out.below HX1).apartT htag hg6
        · exact (HW.out.trans ((HB1.out.trans (HX1.mono hzw)).mono hsz)).grown hg6 (by simp; omega) (fun g h => (own_lt HO1.out h).1)
      case measure => simp [intOf]; omega
    · obtain rfl : k = vs.length := by omega
      go_wp2_with fail
      go_ret2
      refine ⟨qs, B, cc, by rw [HKK.out]; rfl, ?_, HOK.out, ?_, HW.out⟩
      · rw [HV.out, ← HLEN.out, List.take_length]
      · have h := Sl.of_own HO.out
        rw [HKK.out]
        exact h
set_option maxRecDepth 100000 in
set_option maxHeartbeats 4000000 in
theorem reals_ (L : List ByteArray) (rs : List Rat9) (hlen : rs.length = L.length) (hg : ∀ (k : Nat) (s : ByteArray) (r : Rat9), L[k]? = some s → rs[k]? = some r → GetOk s r) (hl : L.length ≤ 1000) (A : Option Addr) (c : Nat) (w : World) (hM : MxL w) (hL : Sl w w.heap.size 1 A L.length c (strs L)) :
    Calls Tryz.prog 21 #[.slice A L.length c] w (QsT (.int .i64 0) rs w) := by
  have HA := Lib.hid (all1_ L rs hlen hg hl A c w hM hL)
  have HLEN := Lib.hid hlen
  clear hg hM hL hlen
  go_enter Tryz.func21, Tryz.ntmps21
  go_wp2_with fail
  refine HA.out.mono ?_
  rintro e w1 ⟨vs, B, b, rfl, hr, hok, hs, hb⟩
  have HW := Lib.hid hb
  have hvl : vs.length ≤ 1000 := by
    have := congrArg List.length hr
    rw [List.length_map, HLEN.out] at this
    omega
  have H2 := Lib.hid (all2_ vs hvl B b w1 hok hs)
  rw [hr] at H2
  clear hr hok hs hb
  go_wp2_with fail
  refine H2.out.mono ?_
  rintro e w2 ⟨qs, D, d, rfl, hq, hok, hs, hb⟩
  have HQ := Lib.hid hq
  have HOK := Lib.hid hok
  have HS := Lib.hid hs
  have HW2 := Lib.hid (HW.out.trans (hb.mono HW.out.size))
  clear hq hok hs hb
  go_wp2_with fail
  go_ret2
  exact ⟨qs, D, d, rfl, HQ.out, HOK.out, HS.out, HW2.out⟩
set_option maxRecDepth 100000 in
set_option maxHeartbeats 4000000 in
theorem Cmp_ (s t : ByteArray) (a b : Rat9) (ha : GetOk s a) (hb : GetOk t b) (w : World) (hM : MxL w) : Calls Tryz.prog 7 #[.string s, .string t] w fun e w' => e = .returned (.tuple #[.int .i64 (a.cmp b), .int .i64 0]) ∧ Below w.heap.size w w' := by
  have HR : Hid (∀ W A c, MxL W → Sl W W.heap.size 1 A 2 c (strs [s, t]) → Calls Tryz.prog 21 #[.slice A 2 c] W (QsT (.int .i64 0) [a, b] W)) := fun W A c hW hL => reals_ [s, t] [a, b] rfl (fun k s' r h1 h2 => by
    match k, h1, h2 with
    | 0, h1, h2 => cases h1; cases h2; exact ha
    | 1, h1, h2 => cases h1; cases h2; exact hb
    | k + 2, h1, h2 => simp at h1) (by simp) A c W hW hL
  have HM := Lib.hid hM
  have HCP : Hid (∀ W A1 D1 A2 D2 c1 d1 c2 d2, RIn W a A1 c1 D1 d1 → RIn W b A2 c2 D2 d2 → Calls Tryz.prog 22 #[a.val A1 c1 D1 d1, b.val A2 c2 D2 d2] W fun e w' => e = .returned (.int .i64 (a.cmp b)) ∧ Below W.heap.size W w') := fun W A1 D1 A2 D2 c1 d1 c2 d2 h1 h2 => rcompare_ a b A1 D1 A2 D2 c1 d1 c2 d2 W h1 h2 (Nat.lt_of_lt_of_le ha.sh.n (by decide)) (Nat.lt_of_lt_of_le ha.sh.d (by decide)) ha.sh.d0 (Nat.lt_of_lt_of_le hb.sh.n (by decide)) (Nat.lt_of_lt_of_le hb.sh.d (by decide)) hb.sh.d0
  obtain ⟨v, hv⟩ : ∃ v, a.cmp b = v := ⟨_, rfl⟩
  rw [hv] at HCP ⊢
  clear hv ha hb hM
  obtain ⟨am, an, ad⟩ := a
  obtain ⟨bm, bn, bd⟩ := b
  simp only [Rat9.val] at HCP
  go_enter Tryz.func7, Tryz.ntmps7
  go_wp2_with fail
  refine (HR.out _ _ _ (HM.out.below (show Below w.heap.size w _ from (by repeat (first | exact Below.refl _ _ | assumption | refine below_drewN ?_ _ | refine Below.drew ?_ | refine Below.setCell ?_ (by first | omega | (simp; done) | (simp; omega)) _ | refine Below.alloc ?_ (by first | omega | (simp; done) | (simp; omega)) _))) (Nat.le_refl _)) ?hs).mono ?_
  case hs => exact ⟨rfl, by decide, by decide, (by intro h; cases h), fun _ => ⟨w.heap.size, 0, rfl, by simp, fun j u hu => by
    match j, hu with
    | 0, hu => cases hu; simp [go_sem]
    | 1, hu => cases hu; simp [go_sem]
    | j + 2, hu => simp [strs] at hu⟩⟩
  rintro e w1 ⟨qs, D, d, rfl, hq, hok, hs, hb⟩
  have HW : Hid (Below w.heap.size w w1) := (show Below w.heap.size w _ from (by repeat (first | exact Below.refl _ _ | assumption | refine below_drewN ?_ _ | refine Below.drew ?_ | refine Below.setCell ?_ (by first | omega | (simp; done) | (simp; omega)) _ | refine Below.alloc ?_ (by first | omega | (simp; done) | (simp; omega)) _))).trans (hb.mono (by simp))
  clear hb
  match qs, hq, hok, hs with
  | [⟨q1, A1, c1, D1, d1⟩, ⟨q2, A2, c2, D2, d2⟩], hq, hok, hs =>
    simp only [List.map_cons, List.map_nil, List.cons.injEq, and_true] at hq
    obtain ⟨rfl, rfl⟩ := hq
    have HO1 := Lib.hid (hok _ (List.mem_cons_self ..))
    have HO2 := Lib.hid (hok _ (List.mem_cons_of_mem _ (List.mem_cons_self ..)))
    have hcap : 2 ≤ d := hs.cap
    obtain ⟨tb, tof9, rfl, htb, hc⟩ := hs.at_ (Nat.succ_pos _)
    have c0 : w1.cell? ⟨tb, tof9, none⟩ = some (.bool am) := hc 0 (.bool am) rfl
    have c1' := hc 1 (.slice A1 (dg an).length c1) rfl
    have c2' := hc 2 (.slice D1 (dg ad).length d1) rfl
    have c3 := hc 3 (.bool bm) rfl
    have c4 := hc 4 (.slice A2 (dg bn).length c2) rfl
    have c5 := hc 5 (.slice D2 (dg bd).length d2) rfl
    have hz : Hid (∀ W, Below w1.heap.size w1 W → RIn W ⟨am, an, ad⟩ A1 c1 D1 d1 ∧ RIn W ⟨bm, bn, bd⟩ A2 c2 D2 d2) := fun W hW => ⟨HO1.out.below hW, HO2.out.below hW⟩
    clear hc hs hok
    go_wp2_with fail
    refine wp_region_bw2 (by kernel_rfl) (by kernel_rfl) (fun hbwc => ?_)
    repeat (go_big_quiet_step ((go_at_call 22; exact bwCall (HCP.out _ _ _ _ _ _ _ _ _ (hz.out _ (BW.below _)).1 (hz.out _ (BW.below _)).2))))
    refine wpQuiet_nil ?_
    clear hbwc
    intro w2 hb
    have HW2 := Lib.hid (HW.out.trans (hb.mono HW.out.size))
    clear hb
    go_wp2_with fail
    go_ret2
    exact ⟨rfl, HW2.out⟩
end Go.Proofs.YtpphnnijnnfngaaGreatDoor
