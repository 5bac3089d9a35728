/-
  Rational numbers and real values of package num as text, of any size.
-/
import Derived.Test.YtpphnnijnnfngaaGreatDoorW36
import Derived.Test.YtpphnnijnnfngaaGreatDoorW34
import Derived.Test.YtpphnnijnnfngaaGreatDoorW09
import Derived.Test.YtpphnnijnnfngaaGreatDoorW37
import Derived.Test.YtpphnnijnnfngaaGreatDoorW07
import Derived.Test.YtpphnnijnnfngaaGreatDoorW03
namespace Go.Proofs.YtpphnnijnnfngaaGreatDoor
open Go.RowKit Al Nat9

/-- Has a number too many digits? -/
def bigB (r : Rat9) : Bool := decide (2000 < (Lib.decDigits r.n).length) || decide (2000 < (Lib.decDigits r.d).length)
set_option maxRecDepth 100000 in
set_option maxHeartbeats 4000000 in
theorem rbigG_ (r : Rat9) (K : Nat) (hr : RLn K r) (hK : K ≤ 200000) (A D : Option Addr) (c d : Nat) (w : World) (h : RIn w r A c D d) (hT : Tab w) : Calls Tryz.prog 81 #[r.val A c D d] w fun e w' => e = .returned (.bool (bigB r)) ∧ Below w.heap.size w w' := by
  obtain ⟨rm, rn, rd⟩ := r
  have hn : (dg rn).length ≤ K := hr.n
  have hd : (dg rd).length ≤ K := hr.d
  have HS1 : Hid (∀ W, Below w.heap.size w W → Calls Tryz.prog 117 #[.slice A (dg rn).length c] W fun e w' => e = .returned (.int .i64 ((Lib.decDigits rn).length : Int)) ∧ Below W.heap.size W w') := fun W hW => nsizeG_ rn A c W (h.n.below hW) (hT.below hW (Nat.le_refl _)) (by omega)
  have HS2 : Hid (∀ W, Below w.heap.size w W → Calls Tryz.prog 117 #[.slice D (dg rd).length d] W fun e w' => e = .returned (.int .i64 ((Lib.decDigits rd).length : Int)) ∧ Below W.heap.size W w') := fun W hW => nsizeG_ rd D d W (h.d.below hW) (hT.below hW (Nat.le_refl _)) (by omega)
  have hbb : bigB ⟨rm, rn, rd⟩ = (decide (2000 < (Lib.decDigits rn).length) || decide (2000 < (Lib.decDigits rd).length)) := rfl
  rw [hbb]
  obtain ⟨ln, hln⟩ : ∃ l, (Lib.decDigits rn).length = l := ⟨_, rfl⟩
  obtain ⟨ld, hld⟩ : ∃ l, (Lib.decDigits rd).length = l := ⟨_, rfl⟩
  rw [hln] at HS1 ⊢
  rw [hld] at HS2 ⊢
  clear h hr hn hd hbb hln hld hT
  simp only [Rat9.val]
  by_cases h1 : 2000 < ln
  · have t3 : (2000 : Int) < (ln : Int) := by omega
    have t5 : decide (2000 < ln) = true := by simpa using h1
    have t7 : decide ((2000 : Int) < (ln : Int)) = true := decide_eq_true t3
    rw [t5, Bool.true_or]
    go_enter Tryz.func81, Tryz.ntmps81
    go_wp2_with fail
    refine (HS1.out _ (by repeat (first | exact Below.refl _ _ | assumption | refine below_drewN ?_ _ | refine Below.drew ?_ | refine Below.setCell ?_ (by first | omega | (simp; done) | (simp; omega)) _ | refine Below.alloc ?_ (by first | omega | (simp; done) | (simp; omega)) _))).mono ?_
    rintro e w1 ⟨rfl, hb1⟩
    have HW1 : Hid (Below w.heap.size w w1) := (show Below w.heap.size w _ from (by repeat (first | exact Below.refl _ _ | assumption | refine below_drewN ?_ _ | refine Below.drew ?_ | refine Below.setCell ?_ (by first | omega | (simp; done) | (simp; omega)) _ | refine Below.alloc ?_ (by first | omega | (simp; done) | (simp; omega)) _))).trans (hb1.mono (by first | omega | (simp; done) | (simp; omega)))
    clear hb1
    go_wp2_with fail
    go_ret
    exact ⟨rfl, HW1.out⟩
  · have t3 : ¬ (2000 : Int) < (ln : Int) := by omega
    have t5 : decide (2000 < ln) = false := by simpa using h1
    have t7 : decide ((2000 : Int) < (ln : Int)) = false := decide_eq_false t3
    rw [t5, Bool.false_or]
    obtain ⟨q, hq⟩ : ∃ q, decide (2000 < ld) = q := ⟨_, rfl⟩
    have t8 : decide ((2000 : Int) < (ld : Int)) = q := by rw [← hq]; exact decide_eq_decide.2 (by omega)
    rw [hq]
    have HQ := Lib.hid hq
    clear h1
    go_enter Tryz.func81, Tryz.ntmps81
    go_wp2_with fail
    refine (HS1.out _ (by repeat (first | exact Below.refl _ _ | assumption | refine below_drewN ?_ _ | refine Below.drew ?_ | refine Below.setCell ?_ (by first | omega | (simp; done) | (simp; omega)) _ | refine Below.alloc ?_ (by first | omega | (simp; done) | (simp; omega)) _))).mono ?_
    rintro e w1 ⟨rfl, hb1⟩
    obtain ⟨hc1, hf1⟩ := bcell hb1
    have hz1 := hb1.size
    simp at hz1
    have HW1 : Hid (Below w.heap.size w w1) := (show Below w.heap.size w _ from (by repeat (first | exact Below.refl _ _ | assumption | refine below_drewN ?_ _ | refine Below.drew ?_ | refine Below.setCell ?_ (by first | omega | (simp; done) | (simp; omega)) _ | refine Below.alloc ?_ (by first | omega | (simp; done) | (simp; omega)) _))).trans (hb1.mono (by first | omega | (simp; done) | (simp; omega)))
    clear hb1
    go_wp2_with fail
    refine (HS2.out _ (by repeat (first | exact Below.refl _ _ | exact (HW1).out | refine below_drewN ?_ _ | refine Below.drew ?_ | refine Below.setCell ?_ (by first | omega | (simp; done) | (simp; omega)) _ | refine Below.alloc ?_ (by first | omega | (simp; done) | (simp; omega)) _))).mono ?_
    rintro e w2 ⟨rfl, hb2⟩
    have HW2 : Hid (Below w.heap.size w w2) := (show Below w.heap.size w _ from (by repeat (first | exact Below.refl _ _ | exact (HW1).out | refine below_drewN ?_ _ | refine Below.drew ?_ | refine Below.setCell ?_ (by first | omega | (simp; done) | (simp; omega)) _ | refine Below.alloc ?_ (by first | omega | (simp; done) | (simp; omega)) _))).trans (hb2.mono (by first | omega | (simp; done) | (simp; omega)))
    clear hb2
    go_wp2_with fail
    go_ret
    exact ⟨rfl, HW2.out⟩
set_option maxRecDepth 100000 in
set_option maxHeartbeats 4000000 in
theorem rtextA_ (r : Rat9) (K : Nat) (hr : RLn K r) (hK : K ≤ 200000) (h19 : r.d < 1000000000) (A D : Option Addr) (c d : Nat) (w : World) (h : RIn w r A c D d) (hT : Tab w) : Calls Tryz.prog 116 #[r.val A c D d] w fun e w' => e = .returned (.string (bT (txR r))) ∧ Below w.heap.size w w' := by
  obtain ⟨rm, rn, rd⟩ := r
  have hn : (dg rn).length ≤ K := hr.n
  have hd : (dg rd).length ≤ K := hr.d
  have hd0 : 0 < rd := hr.d0
  have HS1 : Hid (∀ W, Below w.heap.size w W → Calls Tryz.prog 139 #[.slice A (dg rn).length c] W fun e w' => e = .returned (.string (bT (Lib.decDigits rn))) ∧ Below W.heap.size W w') := fun W hW => ntextG_ rn A c W (h.n.below hW) (hT.below hW (Nat.le_refl _)) (by omega)
  have HS2 : Hid (∀ W, Below w.heap.size w W → Calls Tryz.prog 139 #[.slice D (dg rd).length d] W fun e w' => e = .returned (.string (bT (Lib.decDigits rd))) ∧ Below W.heap.size W w') := fun W hW => ntextG_ rd D d W (h.d.below hW) (hT.below hW (Nat.le_refl _)) (by omega)
  have h19' : rd < 1000000000 := h19
  obtain ⟨hl, b, off, rfl, hb, z⟩ := na_one (show NaIn w D d rd from h.d) hd0 h19'
  clear h19
  have hcap : 1 ≤ d := by have := S64.cap h.d; rw [show (dg rd).length = 1 from hl] at this; exact this
  have s1 : (bT (Lib.decDigits rn)).size ≤ 2000000 := by rw [bT_size]; have := dec_le rn; omega
  have s2 : (bT (Lib.decDigits rd)).size ≤ 2000000 := by rw [bT_size]; have := dec_le rd; omega
  have HTX : Hid (bT (txR ⟨rm, rn, rd⟩) = bT ((if rm then [45] else []) ++ Lib.decDigits rn ++ (if rd = 1 then [] else 47 :: Lib.decDigits rd))) := rfl
  obtain ⟨R, hR⟩ : ∃ R, bT (txR ⟨rm, rn, rd⟩) = R := ⟨_, rfl⟩
  rw [hR] at HTX ⊢
  have HN : Hid ((⟨#[45]⟩ : ByteArray) ++ bT (Lib.decDigits rn) = bT (45 :: Lib.decDigits rn)) := bT_app [45] _
  have HDD : Hid ((⟨#[47]⟩ : ByteArray) ++ bT (Lib.decDigits rd) = bT (47 :: Lib.decDigits rd)) := bT_app [47] _
  have HA : Hid (∀ l m : List UInt8, bT l ++ bT m = bT (l ++ m)) := bT_app
  obtain ⟨ln, hln⟩ : ∃ l, Lib.decDigits rn = l := ⟨_, rfl⟩
  obtain ⟨ld, hld⟩ : ∃ l, Lib.decDigits rd = l := ⟨_, rfl⟩
  rw [hln] at HS1 s1 HTX HN
  rw [hld] at HS2 s2 HTX HDD
  obtain ⟨de, hde⟩ : ∃ l, bT ln = l := ⟨_, rfl⟩
  obtain ⟨df, hdf⟩ : ∃ l, bT ld = l := ⟨_, rfl⟩
  rw [hde] at HS1 s1 HN
  rw [hdf] at HS2 s2 HDD
  have HDE := Lib.hid hde
  have HDF := Lib.hid hdf
  rw [hl] at HS2
  simp only [Rat9.val]
  rw [hl]
  clear h hr hln hld hde hdf hR hn hd hl hT hK
  have finish : ∀ (Z : ByteArray), Z = bT ((if rm then [45] else []) ++ ln ++ (if rd = 1 then [] else 47 :: ld)) → Z = R := fun Z hZ => by rw [hZ]; exact HTX.out.symm
  have HF := Lib.hid finish
  clear finish
  cases rm with
  | true =>
    by_cases h1 : rd = 1
    · subst h1
      go_enter Tryz.func116, Tryz.ntmps116
      go_wp2_with fail
      refine (HS1.out _ (by repeat (first | exact Below.refl _ _ | assumption | refine below_drewN ?_ _ | refine Below.drew ?_ | refine Below.setCell ?_ (by first | omega | (simp; done) | (simp; omega)) _ | refine Below.alloc ?_ (by first | omega | (simp; done) | (simp; omega)) _))).mono ?_
      rintro e w1 ⟨rfl, hb1⟩
      obtain ⟨hc1, hf1⟩ := bcell hb1
      have HW1 : Hid (Below w.heap.size w w1) := (show Below w.heap.size w _ from (by repeat (first | exact Below.refl _ _ | assumption | refine below_drewN ?_ _ | refine Below.drew ?_ | refine Below.setCell ?_ (by first | omega | (simp; done) | (simp; omega)) _ | refine Below.alloc ?_ (by first | omega | (simp; done) | (simp; omega)) _))).trans (hb1.mono (by first | omega | (simp; done) | (simp; omega)))
      have hz1 := hb1.size
      simp at hz1
      clear hb1
      go_wp2_with fail
      go_ret
      refine ⟨congrArg (fun z => Ending.returned (Value.string z)) (HF.out _ ?_), HW1.out⟩
      rw [HN.out]
      try simp
    · have h2 : (1 : Int) < (rd : Int) := by omega
      go_enter Tryz.func116, Tryz.ntmps116
      go_wp2_with fail
      refine (HS1.out _ (by repeat (first | exact Below.refl _ _ | assumption | refine below_drewN ?_ _ | refine Below.drew ?_ | refine Below.setCell ?_ (by first | omega | (simp; done) | (simp; omega)) _ | refine Below.alloc ?_ (by first | omega | (simp; done) | (simp; omega)) _))).mono ?_
      rintro e w1 ⟨rfl, hb1⟩
      obtain ⟨hc1, hf1⟩ := bcell hb1
      have HW1 : Hid (Below w.heap.size w w1) := (show Below w.heap.size w _ from (by repeat (first | exact Below.refl _ _ | assumption | refine below_drewN ?_ _ | refine Below.drew ?_ | refine Below.setCell ?_ (by first | omega | (simp; done) | (simp; omega)) _ | refine Below.alloc ?_ (by first | omega | (simp; done) | (simp; omega)) _))).trans (hb1.mono (by first | omega | (simp; done) | (simp; omega)))
      have hz1 := hb1.size
      simp at hz1
      clear hb1
      go_wp2_with fail
      refine (HS2.out _ (by repeat (first | exact Below.refl _ _ | exact (HW1).out | refine below_drewN ?_ _ | refine Below.drew ?_ | refine Below.setCell ?_ (by first | omega | (simp; done) | (simp; omega)) _ | refine Below.alloc ?_ (by first | omega | (simp; done) | (simp; omega)) _))).mono ?_
      rintro e w2 ⟨rfl, hb2⟩
      have HW2 : Hid (Below w.heap.size w w2) := (show Below w.heap.size w _ from (by repeat (first | exact Below.refl _ _ | exact (HW1).out | refine below_drewN ?_ _ | refine Below.drew ?_ | refine Below.setCell ?_ (by first | omega | (simp; done) | (simp; omega)) _ | refine Below.alloc ?_ (by first | omega | (simp; done) | (simp; omega)) _))).trans (hb2.mono (by first | omega | (simp; done) | (simp; omega)))
      clear hb2
      go_wp2_with fail
      go_ret
      refine ⟨congrArg (fun z => Ending.returned (Value.string z)) (HF.out _ ?_), HW2.out⟩
      rw [HN.out, HDD.out, HA.out, if_neg h1]
      try simp
  | false =>
    by_cases h1 : rd = 1
    · subst h1
      go_enter Tryz.func116, Tryz.ntmps116
      go_wp2_with fail
      refine (HS1.out _ (by repeat (first | exact Below.refl _ _ | assumption | refine below_drewN ?_ _ | refine Below.drew ?_ | refine Below.setCell ?_ (by first | omega | (simp; done) | (simp; omega)) _ | refine Below.alloc ?_ (by first | omega | (simp; done) | (simp; omega)) _))).mono ?_
      rintro e w1 ⟨rfl, hb1⟩
      obtain ⟨hc1, hf1⟩ := bcell hb1
      have HW1 : Hid (Below w.heap.size w w1) := (show Below w.heap.size w _ from (by repeat (first | exact Below.refl _ _ | assumption | refine below_drewN ?_ _ | refine Below.drew ?_ | refine Below.setCell ?_ (by first | omega | (simp; done) | (simp; omega)) _ | refine Below.alloc ?_ (by first | omega | (simp; done) | (simp; omega)) _))).trans (hb1.mono (by first | omega | (simp; done) | (simp; omega)))
      have hz1 := hb1.size
      simp at hz1
      clear hb1
      go_wp2_with fail
      go_ret
      refine ⟨congrArg (fun z => Ending.returned (Value.string z)) (HF.out _ ?_), HW1.out⟩
      rw [← HDE.out]
      try simp
    · have h2 : (1 : Int) < (rd : Int) := by omega
      go_enter Tryz.func116, Tryz.ntmps116
      go_wp2_with fail
      refine (HS1.out _ (by repeat (first | exact Below.refl _ _ | assumption | refine below_drewN ?_ _ | refine Below.drew ?_ | refine Below.setCell ?_ (by first | omega | (simp; done) | (simp; omega)) _ | refine Below.alloc ?_ (by first | omega | (simp; done) | (simp; omega)) _))).mono ?_
      rintro e w1 ⟨rfl, hb1⟩
      obtain ⟨hc1, hf1⟩ := bcell hb1
      have HW1 : Hid (Below w.heap.size w w1) := (show Below w.heap.size w _ from (by repeat (first | exact Below.refl _ _ | assumption | refine below_drewN ?_ _ | refine Below.drew ?_ | refine Below.setCell ?_ (by first | omega | (simp; done) | (simp; omega)) _ | refine Below.alloc ?_ (by first | omega | (simp; done) | (simp; omega)) _))).trans (hb1.mono (by first | omega | (simp; done) | (simp; omega)))
      have hz1 := hb1.size
      simp at hz1
      clear hb1
      go_wp2_with fail
      refine (HS2.out _ (by repeat (first | exact Below.refl _ _ | exact (HW1).out | refine below_drewN ?_ _ | refine Below.drew ?_ | refine Below.setCell ?_ (by first | omega | (simp; done) | (simp; omega)) _ | refine Below.alloc ?_ (by first | omega | (simp; done) | (simp; omega)) _))).mono ?_
      rintro e w2 ⟨rfl, hb2⟩
      have HW2 : Hid (Below w.heap.size w w2) := (show Below w.heap.size w _ from (by repeat (first | exact Below.refl _ _ | exact (HW1).out | refine below_drewN ?_ _ | refine Below.drew ?_ | refine Below.setCell ?_ (by first | omega | (simp; done) | (simp; omega)) _ | refine Below.alloc ?_ (by first | omega | (simp; done) | (simp; omega)) _))).trans (hb2.mono (by first | omega | (simp; done) | (simp; omega)))
      clear hb2
      go_wp2_with fail
      go_ret
      refine ⟨congrArg (fun z => Ending.returned (Value.string z)) (HF.out _ ?_), HW2.out⟩
      rw [HDD.out, ← HDE.out, HA.out, if_neg h1]
      try simp
set_option maxRecDepth 100000 in
set_option maxHeartbeats 4000000 in
theorem rtextB_ (r : Rat9) (K : Nat) (hr : RLn K r) (hK : K ≤ 200000) (h19 : 1000000000 ≤ r.d) (A D : Option Addr) (c d : Nat) (w : World) (h : RIn w r A c D d) (hT : Tab w) : Calls Tryz.prog 116 #[r.val A c D d] w fun e w' => e = .returned (.string (bT (txR r))) ∧ Below w.heap.size w w' := by
  obtain ⟨rm, rn, rd⟩ := r
  have hn : (dg rn).length ≤ K := hr.n
  have hd : (dg rd).length ≤ K := hr.d
  have hd0 : 0 < rd := hr.d0
  have HS1 : Hid (∀ W, Below w.heap.size w W → Calls Tryz.prog 139 #[.slice A (dg rn).length c] W fun e w' => e = .returned (.string (bT (Lib.decDigits rn))) ∧ Below W.heap.size W w') := fun W hW => ntextG_ rn A c W (h.n.below hW) (hT.below hW (Nat.le_refl _)) (by omega)
  have HS2 : Hid (∀ W, Below w.heap.size w W → Calls Tryz.prog 139 #[.slice D (dg rd).length d] W fun e w' => e = .returned (.string (bT (Lib.decDigits rd))) ∧ Below W.heap.size W w') := fun W hW => ntextG_ rd D d W (h.d.below hW) (hT.below hW (Nat.le_refl _)) (by omega)
  have h19' : 1000000000 ≤ rd := h19
  have hl1 : 1 < (dg rd).length := dg_len_gt (k := 1) (by omega)
  have hne : rd ≠ 1 := by omega
  have HNE : Hid (rd ≠ 1) := hne
  obtain ⟨lg, hl⟩ : ∃ l, (dg rd).length = l := ⟨_, rfl⟩
  rw [hl] at hl1
  have hl2 : (1 : Int) < (lg : Int) := by omega
  clear h19 h19' hne
  have s1 : (bT (Lib.decDigits rn)).size ≤ 2000000 := by rw [bT_size]; have := dec_le rn; omega
  have s2 : (bT (Lib.decDigits rd)).size ≤ 2000000 := by rw [bT_size]; have := dec_le rd; omega
  have HTX : Hid (bT (txR ⟨rm, rn, rd⟩) = bT ((if rm then [45] else []) ++ Lib.decDigits rn ++ (if rd = 1 then [] else 47 :: Lib.decDigits rd))) := rfl
  obtain ⟨R, hR⟩ : ∃ R, bT (txR ⟨rm, rn, rd⟩) = R := ⟨_, rfl⟩
  rw [hR] at HTX ⊢
  have HN : Hid ((⟨#[45]⟩ : ByteArray) ++ bT (Lib.decDigits rn) = bT (45 :: Lib.decDigits rn)) := bT_app [45] _
  have HDD : Hid ((⟨#[47]⟩ : ByteArray) ++ bT (Lib.decDigits rd) = bT (47 :: Lib.decDigits rd)) := bT_app [47] _
  have HA : Hid (∀ l m : List UInt8, bT l ++ bT m = bT (l ++ m)) := bT_app
  obtain ⟨ln, hln⟩ : ∃ l, Lib.decDigits rn = l := ⟨_, rfl⟩
  obtain ⟨ld, hld⟩ : ∃ l, Lib.decDigits rd = l := ⟨_, rfl⟩
  rw [hln] at HS1 s1 HTX HN
  rw [hld] at HS2 s2 HTX HDD
  obtain ⟨de, hde⟩ : ∃ l, bT ln = l := ⟨_, rfl⟩
  obtain ⟨df, hdf⟩ : ∃ l, bT ld = l := ⟨_, rfl⟩
  rw [hde] at HS1 s1 HN
  rw [hdf] at HS2 s2 HDD
  have HDE := Lib.hid hde
  have HDF := Lib.hid hdf
  rw [hl] at HS2
  simp only [Rat9.val]
  rw [hl]
  clear h hr hln hld hde hdf hR hn hd hl hT hK
  have finish : ∀ (Z : ByteArray), Z = bT ((if rm then [45] else []) ++ ln ++ (if rd = 1 then [] else 47 :: ld)) → Z = R := fun Z hZ => by rw [hZ]; exact HTX.out.symm
  have HF := Lib.hid finish
  clear finish
  cases rm with
  | true =>
    go_enter Tryz.func116, Tryz.ntmps116
    go_wp2_with fail
    refine (HS1.out _ (by repeat (first | exact Below.refl _ _ | assumption | refine below_drewN ?_ _ | refine Below.drew ?_ | refine Below.setCell ?_ (by first | omega | (simp; done) | (simp; omega)) _ | refine Below.alloc ?_ (by first | omega | (simp; done) | (simp; omega)) _))).mono ?_
    rintro e w1 ⟨rfl, hb1⟩
    obtain ⟨hc1, hf1⟩ := bcell hb1
    have HW1 : Hid (Below w.heap.size w w1) := (show Below w.heap.size w _ from (by repeat (first | exact Below.refl _ _ | assumption | refine below_drewN ?_ _ | refine Below.drew ?_ | refine Below.setCell ?_ (by first | omega | (simp; done) | (simp; omega)) _ | refine Below.alloc ?_ (by first | omega | (simp; done) | (simp; omega)) _))).trans (hb1.mono (by first | omega | (simp; done) | (simp; omega)))
    have hz1 := hb1.size
    simp at hz1
    clear hb1
    go_wp2_with fail
    refine (HS2.out _ (by repeat (first | exact Below.refl _ _ | exact (HW1).out | refine below_drewN ?_ _ | refine Below.drew ?_ | refine Below.setCell ?_ (by first | omega | (simp; done) | (simp; omega)) _ | refine Below.alloc ?_ (by first | omega | (simp; done) | (simp; omega)) _))).mono ?_
    rintro e w2 ⟨rfl, hb2⟩
    have HW2 : Hid (Below w.heap.size w w2) := (show Below w.heap.size w _ from (by repeat (first | exact Below.refl _ _ | exact (HW1).out | refine below_drewN ?_ _ | refine Below.drew ?_ | refine Below.setCell ?_ (by first | omega | (simp; done) | (simp; omega)) _ | refine Below.alloc ?_ (by first | omega | (simp; done) | (simp; omega)) _))).trans (hb2.mono (by first | omega | (simp; done) | (simp; omega)))
    clear hb2
    go_wp2_with fail
    go_ret
    refine ⟨congrArg (fun z => Ending.returned (Value.string z)) (HF.out _ ?_), HW2.out⟩
    rw [HN.out, HDD.out, HA.out, if_neg HNE.out]
    try simp
  | false =>
    go_enter Tryz.func116, Tryz.ntmps116
    go_wp2_with fail
    refine (HS1.out _ (by repeat (first | exact Below.refl _ _ | assumption | refine below_drewN ?_ _ | refine Below.drew ?_ | refine Below.setCell ?_ (by first | omega | (simp; done) | (simp; omega)) _ | refine Below.alloc ?_ (by first | omega | (simp; done) | (simp; omega)) _))).mono ?_
    rintro e w1 ⟨rfl, hb1⟩
    obtain ⟨hc1, hf1⟩ := bcell hb1
    have HW1 : Hid (Below w.heap.size w w1) := (show Below w.heap.size w _ from (by repeat (first | exact Below.refl _ _ | assumption | refine below_drewN ?_ _ | refine Below.drew ?_ | refine Below.setCell ?_ (by first | omega | (simp; done) | (simp; omega)) _ | refine Below.alloc ?_ (by first | omega | (simp; done) | (simp; omega)) _))).trans (hb1.mono (by first | omega | (simp; done) | (simp; omega)))
    have hz1 := hb1.size
    simp at hz1
    clear hb1
    go_wp2_with fail
    refine (HS2.out _ (by repeat (first | exact Below.refl _ _ | exact (HW1).out | refine below_drewN ?_ _ | refine Below.drew ?_ | refine Below.setCell ?_ (by first | omega | (simp; done) | (simp; omega)) _ | refine Below.alloc ?_ (by first | omega | (simp; done) | (simp; omega)) _))).mono ?_
    rintro e w2 ⟨rfl, hb2⟩
    have HW2 : Hid (Below w.heap.size w w2) := (show Below w.heap.size w _ from (by repeat (first | exact Below.refl _ _ | exact (HW1).out | refine below_drewN ?_ _ | refine Below.drew ?_ | refine Below.setCell ?_ (by first | omega | (simp; done) | (simp; omega)) _ | refine Below.alloc ?_ (by first | omega | (simp; done) | (simp; omega)) _))).trans (hb2.mono (by first | omega | (simp; done) | (simp; omega)))
    clear hb2
    go_wp2_with fail
    go_ret
    refine ⟨congrArg (fun z => Ending.returned (Value.string z)) (HF.out _ ?_), HW2.out⟩
    rw [HDD.out, ← HDE.out, HA.out, if_neg HNE.out]
    try simp
theorem rtextG_ (r : Rat9) (K : Nat) (hr : RLn K r) (hK : K ≤ 200000) (A D : Option Addr) (c d : Nat) (w : World) (h : RIn w r A c D d) (hT : Tab w) : Calls Tryz.prog 116 #[r.val A c D d] w fun e w' => e = .returned (.string (bT (txR r))) ∧ Below w.heap.size w w' := by
  rcases Nat.lt_or_ge r.d 1000000000 with h1 | h1
  · exact rtextA_ r K hr hK h1 A D c d w h hT
  · exact rtextB_ r K hr hK h1 A D c d w h hT
set_option maxRecDepth 100000 in
set_option maxHeartbeats 4000000 in
theorem vtextG_ (v : VR) (K : Nat) (hr : RLn K v.r) (hK : K ≤ 200000) (w : World) (h : v.ok w) (hT : Tab w) : Calls Tryz.prog 80 #[v.val] w fun e w' => e = .returned (.string (bT (txR v.r))) ∧ Below w.heap.size w w' := by
  have HT : Hid (∀ W, Below w.heap.size w W → Calls Tryz.prog 116 #[v.r.val v.A v.c v.D v.d] W fun e w' => e = .returned (.string (bT (txR v.r))) ∧ Below W.heap.size W w') := fun W hW => rtextG_ v.r K hr hK v.A v.D v.c v.d W ⟨h.n.below hW, h.d.below hW⟩ (hT.below hW (Nat.le_refl _))
  have HI : Hid (∀ W, Calls Tryz.prog 53 #[v.val] W fun e w' => e = .returned (.bool true) ∧ Below W.heap.size W w') := fun W => isReal_ v W
  clear h hr hT
  obtain ⟨⟨rm, rn, rd⟩, A, c, D, d, B, b, E, f⟩ := v
  simp only [VR.val, Rat9.val] at HT HI ⊢
  obtain ⟨R, hR⟩ : ∃ R, bT (txR ⟨rm, rn, rd⟩) = R := ⟨_, rfl⟩
  rw [hR] at HT ⊢
  clear hR
  go_enter Tryz.func80, Tryz.ntmps80
  go_wp2_with fail
  refine (HI.out _).mono ?_
  rintro e w1 ⟨rfl, hb1⟩
  obtain ⟨hc1, hf1⟩ := bcell hb1
  have HW1 : Hid (Below w.heap.size w w1) := (show Below w.heap.size w _ from (by repeat (first | exact Below.refl _ _ | assumption | refine below_drewN ?_ _ | refine Below.drew ?_ | refine Below.setCell ?_ (by first | omega | (simp; done) | (simp; omega)) _ | refine Below.alloc ?_ (by first | omega | (simp; done) | (simp; omega)) _))).trans (hb1.mono (by first | omega | (simp; done) | (simp; omega)))
  clear hb1
  go_wp2_with fail
  refine (HT.out _ (by repeat (first | exact Below.refl _ _ | exact (HW1).out | refine below_drewN ?_ _ | refine Below.drew ?_ | refine Below.setCell ?_ (by first | omega | (simp; done) | (simp; omega)) _ | refine Below.alloc ?_ (by first | omega | (simp; done) | (simp; omega)) _))).mono ?_
  rintro e w2 ⟨rfl, hb2⟩
  have HW2 : Hid (Below w.heap.size w w2) := (show Below w.heap.size w _ from (by repeat (first | exact Below.refl _ _ | exact (HW1).out | refine below_drewN ?_ _ | refine Below.drew ?_ | refine Below.setCell ?_ (by first | omega | (simp; done) | (simp; omega)) _ | refine Below.alloc ?_ (by first | omega | (simp; done) | (simp; omega)) _))).trans (hb2.mono HW1.out.size)
  clear hb2
  go_wp2_with fail
  go_ret
  exact ⟨rfl, HW2.out⟩
end Go.Proofs.YtpphnnijnnfngaaGreatDoor

/-
  parsed for any string; whole for any int.
-/
namespace Go.Proofs.YtpphnnijnnfngaaGreatDoor
open Go.RowKit Al Nat9

set_option maxRecDepth 100000 in
set_option maxHeartbeats 4000000 in
theorem wholeP_ (n : Nat) (hn : n < 4611686018427387904) (w : World) : Calls Tryz.prog 58 #[.int .i64 (n : Int)] w (RatT ⟨false, n, 1⟩ w) := by
  have n0 : ¬ (n : Int) < 0 := by omega
  have n1 : (n : Int) < 18446744073709551616 := by omega
  have n2 : (0 : Int) ≤ (n : Int) := by omega
  have HL := Lib.hid len1
  go_enter Tryz.func58, Tryz.ntmps58
  go_wp2_with fail
  refine (natural_ n _ (by omega)).mono ?_
  rintro e w1 ⟨A, c, rfl, hq, hb⟩
  have HN := Lib.hid hq
  have HB1 : Hid (Below (w.heap.size + 1) (w.alloc (.cells #[.bool false, .slice none 0 0, .slice none 0 0] 69)) w1) := by show Below _ _ _; simpa using hb
  clear hq hb
  go_wp2_with fail
  refine (one_ _).mono ?_
  rintro e w2 ⟨D, d, rfl, hq, hb⟩
  rw [HL.out]
  have HN1 := Lib.hid (HN.out.below hb)
  have HD := Lib.hid hq
  have hz1 := HB1.out.size
  simp at hz1
  have HB2 : Hid (Below (w.heap.size + 1) (w.alloc (.cells #[.bool false, .slice none 0 0, .slice none 0 0] 69)) w2) := HB1.out.trans (hb.mono (by omega))
  have HW : Hid (Below w.heap.size w w2) := (show Below w.heap.size w _ from (by repeat (first | exact Below.refl _ _ | assumption | refine below_drewN ?_ _ | refine Below.drew ?_ | refine Below.setCell ?_ (by first | omega | (simp; done) | (simp; omega)) _ | refine Below.alloc ?_ (by first | omega | (simp; done) | (simp; omega)) _))).trans (HB2.out.mono (by simp))
  clear hq hb
  obtain ⟨-, q0, q1, q2, f0, f1, f2, hlt⟩ := box_cells HB2.out
  go_wp2_with fail
  refine bodyPost_ret (v := .agg #[.bool false, .slice A (dg n).length c, .slice D 1 d]) (by simp [results, Tryz.results58, go_sem, q0, q1, q2]) rfl ⟨A, c, D, d, by rw [HL.out], box_keeps HB2.out HN1.out _ _ _, box_keeps HB2.out HD.out _ _ _, (by repeat (first | exact Below.refl _ _ | exact (HW).out | refine below_drewN ?_ _ | refine Below.drew ?_ | refine Below.setCell ?_ (by first | omega | (simp; done) | (simp; omega)) _ | refine Below.alloc ?_ (by first | omega | (simp; done) | (simp; omega)) _))⟩
set_option maxRecDepth 100000 in
set_option maxHeartbeats 4000000 in
theorem wholeN_ (z : Int) (n : Nat) (hz : -(z + 1) = (n : Int)) (hz0 : z < 0) (hz1 : -4611686018427387904 ≤ z) (w : World) : Calls Tryz.prog 58 #[.int .i64 z] w (RatT ⟨true, n + 1, 1⟩ w) := by
  have hn9 : n < 4611686018427387904 := by omega
  have HN9 := Lib.hid hn9
  obtain ⟨k, hk⟩ : ∃ k, n + 1 = k := ⟨_, rfl⟩
  have eK : (n : Int) + 1 = (k : Int) := by omega
  have eW : IntKind.u64.wrap (n : Int) = (n : Int) := u64wrap (by omega) (by omega)
  have eV : IntKind.u64.wrap (k : Int) = (k : Int) := u64wrap (by omega) (by omega)
  have eU : IntKind.i64.wrap (z + 1) = z + 1 := IntWalk.i64_in _ (by omega)
  have eT : IntKind.i64.wrap (n : Int) = (n : Int) := IntWalk.i64_in _ (by omega)
  have hk64 : Hid (k < 18446744073709551616) := by show _ < _; omega
  rw [hk]
  clear hk hn9 hz1
  have HL := Lib.hid len1
  go_enter Tryz.func58, Tryz.ntmps58
  go_wp2_with fail
  refine (natural_ k _ hk64.out).mono ?_
  rintro e w1 ⟨A, c, rfl, hq, hb⟩
  have HN := Lib.hid hq
  have HB1 : Hid (Below (w.heap.size + 1) (w.alloc (.cells #[.bool false, .slice none 0 0, .slice none 0 0] 69)) w1) := by show Below _ _ _; simpa using hb
  clear hq hb
  go_wp2_with fail
  refine (one_ _).mono ?_
  rintro e w2 ⟨D, d, rfl, hq, hb⟩
  rw [HL.out]
  have HN1 := Lib.hid (HN.out.below hb)
  have HD := Lib.hid hq
  have hz1 := HB1.out.size
  simp at hz1
  have HB2 : Hid (Below (w.heap.size + 1) (w.alloc (.cells #[.bool false, .slice none 0 0, .slice none 0 0] 69)) w2) := HB1.out.trans (hb.mono (by omega))
  have HW : Hid (Below w.heap.size w w2) := (show Below w.heap.size w _ from (by repeat (first | exact Below.refl _ _ | assumption | refine below_drewN ?_ _ | refine Below.drew ?_ | refine Below.setCell ?_ (by first | omega | (simp; done) | (simp; omega)) _ | refine Below.alloc ?_ (by first | omega | (simp; done) | (simp; omega)) _))).trans (HB2.out.mono (by simp))
  clear hq hb
  obtain ⟨-, q0, q1, q2, f0, f1, f2, hlt⟩ := box_cells HB2.out
  go_wp2_with fail
  refine bodyPost_ret (v := .agg #[.bool true, .slice A (dg k).length c, .slice D 1 d]) (by simp [results, Tryz.results58, go_sem, q0, q1, q2]) rfl ⟨A, c, D, d, by rw [HL.out], box_keeps HB2.out HN1.out _ _ _, box_keeps HB2.out HD.out _ _ _, (by repeat (first | exact Below.refl _ _ | exact (HW).out | refine below_drewN ?_ _ | refine Below.drew ?_ | refine Below.setCell ?_ (by first | omega | (simp; done) | (simp; omega)) _ | refine Below.alloc ?_ (by first | omega | (simp; done) | (simp; omega)) _))⟩
/-- What whole hands back. -/
def whI (z : Int) : Rat9 := ⟨decide (z < 0), z.natAbs, 1⟩
theorem wholeG_ (z : Int) (h0 : -4611686018427387904 ≤ z) (h1 : z < 4611686018427387904) (w : World) : Calls Tryz.prog 58 #[.int .i64 z] w (RatT (whI z) w) := by
  unfold whI
  rcases Int.lt_or_le z 0 with h | h
  · obtain ⟨n, hn⟩ : ∃ n : Nat, -(z + 1) = (n : Int) := ⟨(-(z + 1)).toNat, by omega⟩
    rw [decide_eq_true h, show z.natAbs = n + 1 by omega]
    exact wholeN_ z n hn h h0 w
  · obtain ⟨n, rfl⟩ := Int.eq_ofNat_of_zero_le h
    rw [decide_eq_false (by omega), Int.natAbs_natCast]
    exact wholeP_ n (by omega) w
def parY (m : Bool) (x : Nat) : Option Nat → Option Rat9
  | none => none
  | some y => if y = 0 then none else some (Nat9.red m x y)
/-- What parsed makes of the sign and the parts. -/
def parX (m : Bool) (ab be : List UInt8) (dv : Bool) : Option Rat9 :=
  match ntF ab with
  | none => none
  | some x => if dv then parY m x (ntF be) else some (Nat9.red m x 1)
/-- What parsed reads. -/
def parF (l : List UInt8) : Option Rat9 := parX (Lib.hasPrefix l [45]) (Lib.cut (Lib.trimPrefix l [45]) [47]).1 (Lib.cut (Lib.trimPrefix l [45]) [47]).2.1 (Lib.cut (Lib.trimPrefix l [45]) [47]).2.2
def RabO (o : Option Rat9) (w : World) (e : Ending) (w' : World) : Prop := match o with | some r => RabT r w e w' | none => e = .returned (.tuple #[.agg #[.bool false, .slice none 0 0, .slice none 0 0], .bool false]) ∧ Below w.heap.size w w'
theorem cut_len (s : List UInt8) : (Lib.cut s [47]).1.length ≤ s.length ∧ (Lib.cut s [47]).2.1.length ≤ s.length := by
  unfold Lib.cut
  split
  · exact ⟨by rw [List.length_take]; omega, by rw [List.length_drop]; omega⟩
  · exact ⟨Nat.le_refl _, Nat.zero_le _⟩
theorem trim_len (s p : List UInt8) : (Lib.trimPrefix s p).length ≤ s.length := by
  unfold Lib.trimPrefix
  split
  · rw [List.length_drop]; omega
  · exact Nat.le_refl _
theorem ntF_len {l : List UInt8} {x : Nat} (h : ntF l = some x) : (dg x).length ≤ l.length := by
  unfold ntF at h
  split at h
  · rename_i hd
    cases h
    refine dg_len_le (Nat.lt_of_lt_of_le (decV_lt l (Bool.and_eq_true_iff.1 hd).1) (Nat.pow_le_pow_left (by omega) _))
  · cases h
theorem parF_len {l : List UInt8} {r : Rat9} (h : parF l = some r) (hl : l.length ≤ 9000) : RLn 9000 r := by
  have h1 := cut_len (Lib.trimPrefix l [45])
  have h2 := trim_len l [45]
  unfold parF parX at h
  cases ha : ntF (Lib.cut (Lib.trimPrefix l [45]) [47]).1 with
  | none => rw [ha] at h; cases h
  | some x =>
    rw [ha] at h
    have h3 := ntF_len ha
    simp only at h
    split at h
    · cases hb : ntF (Lib.cut (Lib.trimPrefix l [45]) [47]).2.1 with
      | none => rw [hb] at h; cases h
      | some y =>
        rw [hb] at h
        have h4 := ntF_len hb
        simp only [parY] at h
        split at h
        · cases h
        · cases h
          exact RLn.red (by omega) _ (by omega) (by omega) (by omega)
    · cases h
      exact RLn.red (by omega) _ (by omega) (by rw [dg_one]; simp) (by omega)
set_option maxRecDepth 100000 in
set_option maxHeartbeats 8000000 in
theorem parsedX_ (s : ByteArray) (m : Bool) (dv : Bool) (ab be : List UInt8) (w : World) (hM : MxL w) (hs : s.size ≤ 9000) (hsg : Lib.hasPrefix s.data.toList [45] = m) (hct : Lib.cut (Lib.trimPrefix s.data.toList [45]) [47] = (ab, be, dv)) :
    Calls Tryz.prog 79 #[.string s] w (RabO (parX m ab be dv) w) := by
  have HM := Lib.hid hM
  have hl1 := cut_len (Lib.trimPrefix s.data.toList [45])
  have hl2 := trim_len s.data.toList [45]
  rw [hct] at hl1
  simp only at hl1
  rw [← Lib.size_eq] at hl2
  obtain ⟨t, ht⟩ : ∃ t : ByteArray, (⟨(Lib.trimPrefix s.data.toList [45]).toArray⟩ : ByteArray) = t := ⟨_, rfl⟩
  have htl : t.data.toList = Lib.trimPrefix s.data.toList [45] := by rw [← ht]
  obtain ⟨AB, hAB⟩ : ∃ t : ByteArray, (⟨ab.toArray⟩ : ByteArray) = t := ⟨_, rfl⟩
  obtain ⟨BE, hBE⟩ : ∃ t : ByteArray, (⟨be.toArray⟩ : ByteArray) = t := ⟨_, rfl⟩
  have hts : t.size < 4294967281 := by
    rw [← ht, ba_len]
    omega
  have HC : Hid (∀ W, Calls Tryz.prog 114 #[.string s, .string ⟨#[45]⟩] W fun e w' => e = .returned (.tuple #[.string t, .bool m]) ∧ W = w') := fun W => (Tryz.strings_CutPrefix s ⟨#[45]⟩ W).mono fun e w' ⟨he, hw⟩ => ⟨by rw [he]; show Ending.returned (.tuple #[.string ⟨(Lib.trimPrefix s.data.toList [45]).toArray⟩, .bool (Lib.hasPrefix s.data.toList [45])]) = _; rw [hsg, ht], hw.symm⟩
  have HK : Hid (∀ W, MxL W → Calls Tryz.prog 37 #[.string t, .string ⟨#[47]⟩] W fun e w' => e = .returned (.tuple #[.string AB, .string BE, .bool dv]) ∧ ∃ n, w' = W.drewN n) := fun W ⟨mx, hW⟩ => (Tryz.strings_Cut t ⟨#[47]⟩ mx W hts hW).mono fun e w' ⟨he, hw⟩ => ⟨by
    have e2 : Lib.cut t.data.toList (⟨#[47]⟩ : ByteArray).data.toList = (ab, be, dv) := by rw [htl]; exact hct
    rw [he, e2, ← hAB, ← hBE], hw⟩
  have HN1 : Hid (∀ W, Calls Tryz.prog 115 #[.string AB] W (NtT (ntF ab) W)) := fun W => by
    have h := natTextG_ AB W (by rw [← hAB, ba_len]; omega)
    rw [← hAB] at h ⊢
    exact h
  have HN2 : Hid (∀ W, Calls Tryz.prog 115 #[.string BE] W (NtT (ntF be) W)) := fun W => by
    have h := natTextG_ BE W (by rw [← hBE, ba_len]; omega)
    rw [← hBE] at h ⊢
    exact h
  have hxl : ∀ x, ntF ab = some x → (dg x).length ≤ 9000 := fun x h => by have := ntF_len h; omega
  have hyl : ∀ y, ntF be = some y → (dg y).length ≤ 9000 := fun y h => by have := ntF_len h; omega
  have HXL := Lib.hid hxl
  have HYL := Lib.hid hyl
  unfold parX
  obtain ⟨na, hna⟩ : ∃ o, ntF ab = o := ⟨_, rfl⟩
  obtain ⟨nb, hnb⟩ : ∃ o, ntF be = o := ⟨_, rfl⟩
  rw [hna] at HN1 HXL ⊢
  rw [hnb] at HN2 HYL ⊢
  clear ht htl hAB hBE hts hM hl1 hl2 hct hsg hxl hyl hna hnb hs
  cases na with
  | none =>
    show Calls _ _ _ _ (RabO none w)
    go_enter Tryz.func79, Tryz.ntmps79
    go_wp2_with fail
    refine (HC.out _).mono ?_
    rintro e w1 ⟨rfl, rfl⟩
    go_wp2_with fail
    refine (HK.out _ (HM.out.below (show Below w.heap.size w _ from (by repeat (first | exact Below.refl _ _ | assumption | refine below_drewN ?_ _ | refine Below.drew ?_ | refine Below.setCell ?_ (by first | omega | (simp; done) | (simp; omega)) _ | refine Below.alloc ?_ (by first | omega | (simp; done) | (simp; omega)) _))) (Nat.le_refl _))).mono ?_
    rintro e w2 ⟨rfl, n2, rfl⟩
    go_wp2_with fail
    refine (HN1.out _).mono ?_
    rintro e w3 ⟨rfl, hb⟩
    have HB3 : Hid (Below (w.heap.size + 1) (w.alloc (.cells #[.bool false, .slice none 0 0, .slice none 0 0] 69)) w3) := (below_drewN (Below.refl _ _) n2).trans (by simpa using hb)
    clear hb
    have HW : Hid (Below w.heap.size w w3) := (show Below w.heap.size w _ from (by repeat (first | exact Below.refl _ _ | assumption | refine below_drewN ?_ _ | refine Below.drew ?_ | refine Below.setCell ?_ (by first | omega | (simp; done) | (simp; omega)) _ | refine Below.alloc ?_ (by first | omega | (simp; done) | (simp; omega)) _))).trans (HB3.out.mono (by simp))
    obtain ⟨-, q0, q1, q2, f0, f1, f2, hlt⟩ := box_cells HB3.out
    go_wp2_with fail
    refine bodyPost_ret (v := .tuple #[.agg #[.bool false, .slice none 0 0, .slice none 0 0], .bool false]) (by simp [results, Tryz.results79, go_sem, q0, q1, q2]) rfl ⟨rfl, (by repeat (first | exact Below.refl _ _ | exact (HW).out | refine below_drewN ?_ _ | refine Below.drew ?_ | refine Below.setCell ?_ (by first | omega | (simp; done) | (simp; omega)) _ | refine Below.alloc ?_ (by first | omega | (simp; done) | (simp; omega)) _))⟩
  | some x =>
    have hx9 := HXL.out x rfl
    cases dv with
    | false =>
      show Calls _ _ _ _ (RabT (Nat9.red m x 1) w)
      obtain ⟨r, hr⟩ : ∃ r, Nat9.red m x 1 = r := ⟨_, rfl⟩
      have HR : Hid (∀ W (A D : Option Addr) (c d : Nat), NaIn W A c x → NaIn W D d 1 → Calls Tryz.prog 60 #[.bool m, .slice A (dg x).length c, .slice D (dg 1).length d] W (RatT r W)) := fun W A D c d h1 h2 => hr ▸ reducedG_ m x 1 A D c d W h1 h2 (by omega) (by omega) (by rw [dg_one]; simp)
      rw [hr]
      clear hr
      rw [len1] at HR
      go_enter Tryz.func79, Tryz.ntmps79
      go_wp2_with fail
      refine (HC.out _).mono ?_
      rintro e w1 ⟨rfl, rfl⟩
      go_wp2_with fail
      refine (HK.out _ (HM.out.below (show Below w.heap.size w _ from (by repeat (first | exact Below.refl _ _ | assumption | refine below_drewN ?_ _ | refine Below.drew ?_ | refine Below.setCell ?_ (by first | omega | (simp; done) | (simp; omega)) _ | refine Below.alloc ?_ (by first | omega | (simp; done) | (simp; omega)) _))) (Nat.le_refl _))).mono ?_
      rintro e w2 ⟨rfl, n2, rfl⟩
      go_wp2_with fail
      refine (HN1.out _).mono ?_
      rintro e w3 ⟨A, c, rfl, hq, hb⟩
      have HN := Lib.hid hq
      have HB3 : Hid (Below (w.heap.size + 1) (w.alloc (.cells #[.bool false, .slice none 0 0, .slice none 0 0] 69)) w3) := (below_drewN (Below.refl _ _) n2).trans (by simpa using hb)
      have hz3 := HB3.out.size
      simp at hz3
      clear hq hb
      go_wp2_with fail
      refine (one_ _).mono ?_
      rintro e w4 ⟨D1, d1, rfl, hq, hb⟩
      rw [len1]
      have HO1 := Lib.hid hq
      have HNb := Lib.hid (HN.out.below hb)
      have HB4 : Hid (Below (w.heap.size + 1) (w.alloc (.cells #[.bool false, .slice none 0 0, .slice none 0 0] 69)) w4) := HB3.out.trans (hb.mono (by omega))
      have hz4 := HB4.out.size
      simp at hz4
      clear hq hb
      go_wp2_with fail
      refine (HR.out _ _ _ _ _ HNb.out HO1.out).mono ?_
      rintro e w6 ⟨A6, c6, D6, d6, rfl, hn, hd, hb⟩
      have HA6 := Lib.hid hn
      have HD6 := Lib.hid hd
      have HB6 : Hid (Below (w.heap.size + 1) (w.alloc (.cells #[.bool false, .slice none 0 0, .slice none 0 0] 69)) w6) := HB4.out.trans (hb.mono (by omega))
      have HW : Hid (Below w.heap.size w w6) := (show Below w.heap.size w _ from (by repeat (first | exact Below.refl _ _ | assumption | refine below_drewN ?_ _ | refine Below.drew ?_ | refine Below.setCell ?_ (by first | omega | (simp; done) | (simp; omega)) _ | refine Below.alloc ?_ (by first | omega | (simp; done) | (simp; omega)) _))).trans (HB6.out.mono (by simp))
      clear hn hd hb
      obtain ⟨-, q0, q1, q2, f0, f1, f2, hlt⟩ := box_cells HB6.out
      go_wp2_with fail
      refine bodyPost_ret (v := .tuple #[.agg #[.bool r.m, .slice A6 (dg r.n).length c6, .slice D6 (dg r.d).length d6], .bool true]) (by simp [results, Tryz.results79, go_sem, q0, q1, q2]) rfl ⟨A6, c6, D6, d6, rfl, box_keeps HB6.out HA6.out _ _ _, box_keeps HB6.out HD6.out _ _ _, (by repeat (first | exact Below.refl _ _ | exact (HW).out | refine below_drewN ?_ _ | refine Below.drew ?_ | refine Below.setCell ?_ (by first | omega | (simp; done) | (simp; omega)) _ | refine Below.alloc ?_ (by first | omega | (simp; done) | (simp; omega)) _))⟩
    | true =>
      show Calls _ _ _ _ (RabO (parY m x nb) w)
      obtain ⟨res, hres⟩ : ∃ res : Option Rat9, parY m x nb = res := ⟨_, rfl⟩
      rw [hres]
      have HRES := Lib.hid hres
      clear hres
      go_enter Tryz.func79, Tryz.ntmps79
      go_wp2_with fail
      refine (HC.out _).mono ?_
      rintro e w1 ⟨rfl, rfl⟩
      go_wp2_with fail
      refine (HK.out _ (HM.out.below (show Below w.heap.size w _ from (by repeat (first | exact Below.refl _ _ | assumption | refine below_drewN ?_ _ | refine Below.drew ?_ | refine Below.setCell ?_ (by first | omega | (simp; done) | (simp; omega)) _ | refine Below.alloc ?_ (by first | omega | (simp; done) | (simp; omega)) _))) (Nat.le_refl _))).mono ?_
      rintro e w2 ⟨rfl, n2, rfl⟩
      go_wp2_with fail
      refine (HN1.out _).mono ?_
      rintro e w3 ⟨A, c, rfl, hq, hb⟩
      have HN := Lib.hid hq
      have HB3 : Hid (Below (w.heap.size + 1) (w.alloc (.cells #[.bool false, .slice none 0 0, .slice none 0 0] 69)) w3) := (below_drewN (Below.refl _ _) n2).trans (by simpa using hb)
      have hz3 := HB3.out.size
      simp at hz3
      clear hq hb
      go_wp2_with fail
      refine (one_ _).mono ?_
      rintro e w4 ⟨D1, d1, rfl, hq, hb⟩
      rw [len1]
      have HNb := Lib.hid (HN.out.below hb)
      have HB4 : Hid (Below (w.heap.size + 1) (w.alloc (.cells #[.bool false, .slice none 0 0, .slice none 0 0] 69)) w4) := HB3.out.trans (hb.mono (by omega))
      have hz4 := HB4.out.size
      simp at hz4
      clear hq hb
      go_wp2_with fail
      refine (HN2.out _).mono ?_
      cases nb with
      | none =>
        obtain rfl : none = res := HRES.out
        rintro e w5 ⟨rfl, hb⟩
        have HB5 : Hid (Below (w.heap.size + 1) (w.alloc (.cells #[.bool false, .slice none 0 0, .slice none 0 0] 69)) w5) := HB4.out.trans (hb.mono (by omega))
        clear hb
        have HW : Hid (Below w.heap.size w w5) := (show Below w.heap.size w _ from (by repeat (first | exact Below.refl _ _ | assumption | refine below_drewN ?_ _ | refine Below.drew ?_ | refine Below.setCell ?_ (by first | omega | (simp; done) | (simp; omega)) _ | refine Below.alloc ?_ (by first | omega | (simp; done) | (simp; omega)) _))).trans (HB5.out.mono (by simp))
        obtain ⟨-, q0, q1, q2, f0, f1, f2, hlt⟩ := box_cells HB5.out
        go_wp2_with fail
        refine bodyPost_ret (v := .tuple #[.agg #[.bool false, .slice none 0 0, .slice none 0 0], .bool false]) (by simp [results, Tryz.results79, go_sem, q0, q1, q2]) rfl ⟨rfl, (by repeat (first | exact Below.refl _ _ | exact (HW).out | refine below_drewN ?_ _ | refine Below.drew ?_ | refine Below.setCell ?_ (by first | omega | (simp; done) | (simp; omega)) _ | refine Below.alloc ?_ (by first | omega | (simp; done) | (simp; omega)) _))⟩
      | some y =>
        have hy9 := HYL.out y rfl
        rintro e w5 ⟨D, d, rfl, hq, hb⟩
        have HD := Lib.hid hq
        have HNc := Lib.hid (HNb.out.below hb)
        have HB5 : Hid (Below (w.heap.size + 1) (w.alloc (.cells #[.bool false, .slice none 0 0, .slice none 0 0] 69)) w5) := HB4.out.trans (hb.mono (by omega))
        have hz5 := HB5.out.size
        simp at hz5
        clear hq hb
        by_cases hy0 : y = 0
        · have e0 := HRES.out
          rw [parY, if_pos hy0] at e0
          subst e0
          subst hy0
          rw [len0]
          clear HRES
          have HW : Hid (Below w.heap.size w w5) := (show Below w.heap.size w _ from (by repeat (first | exact Below.refl _ _ | assumption | refine below_drewN ?_ _ | refine Below.drew ?_ | refine Below.setCell ?_ (by first | omega | (simp; done) | (simp; omega)) _ | refine Below.alloc ?_ (by first | omega | (simp; done) | (simp; omega)) _))).trans (HB5.out.mono (by simp))
          obtain ⟨-, q0, q1, q2, f0, f1, f2, hlt⟩ := box_cells HB5.out
          go_wp2_with fail
          refine bodyPost_ret (v := .tuple #[.agg #[.bool false, .slice none 0 0, .slice none 0 0], .bool false]) (by simp [results, Tryz.results79, go_sem, q0, q1, q2]) rfl ⟨rfl, (by repeat (first | exact Below.refl _ _ | exact (HW).out | refine below_drewN ?_ _ | refine Below.drew ?_ | refine Below.setCell ?_ (by first | omega | (simp; done) | (simp; omega)) _ | refine Below.alloc ?_ (by first | omega | (simp; done) | (simp; omega)) _))⟩
        · have e0 := HRES.out
          rw [parY, if_neg hy0] at e0
          subst e0
          have hyl : ((dg y).length == 0) = false := by rw [len_zero]; simpa using hy0
          have hyl2 : (((dg y).length : Int) == 0) = false := by
            have : (dg y).length ≠ 0 := beq_eq_false_iff_ne.1 hyl
            exact beq_eq_false_iff_ne.2 (by omega)
          clear HRES
          obtain ⟨r, hr⟩ : ∃ r, Nat9.red m x y = r := ⟨_, rfl⟩
          have HR : Hid (∀ W (A D : Option Addr) (c d : Nat), NaIn W A c x → NaIn W D d y → Calls Tryz.prog 60 #[.bool m, .slice A (dg x).length c, .slice D (dg y).length d] W (RatT r W)) := fun W A D c d h1 h2 => hr ▸ reducedG_ m x y A D c d W h1 h2 (by omega) (by omega) (by omega)
          have HRQ := Lib.hid hr
          clear hr
          go_wp2_with fail
          refine (HR.out _ _ _ _ _ HNc.out HD.out).mono ?_
          rintro e w6 ⟨A6, c6, D6, d6, rfl, hn, hd, hb⟩
          have HA6 := Lib.hid hn
          have HD6 := Lib.hid hd
          have HB6 : Hid (Below (w.heap.size + 1) (w.alloc (.cells #[.bool false, .slice none 0 0, .slice none 0 0] 69)) w6) := HB5.out.trans (hb.mono (by omega))
          have HW : Hid (Below w.heap.size w w6) := (show Below w.heap.size w _ from (by repeat (first | exact Below.refl _ _ | assumption | refine below_drewN ?_ _ | refine Below.drew ?_ | refine Below.setCell ?_ (by first | omega | (simp; done) | (simp; omega)) _ | refine Below.alloc ?_ (by first | omega | (simp; done) | (simp; omega)) _))).trans (HB6.out.mono (by simp))
          clear hn hd hb
          obtain ⟨-, q0, q1, q2, f0, f1, f2, hlt⟩ := box_cells HB6.out
          go_wp2_with fail
          refine bodyPost_ret (v := .tuple #[.agg #[.bool r.m, .slice A6 (dg r.n).length c6, .slice D6 (dg r.d).length d6], .bool true]) (by simp [results, Tryz.results79, go_sem, q0, q1, q2]) rfl ⟨A6, c6, D6, d6, by rw [HRQ.out], by rw [HRQ.out]; exact box_keeps HB6.out HA6.out _ _ _, by rw [HRQ.out]; exact box_keeps HB6.out HD6.out _ _ _, (by repeat (first | exact Below.refl _ _ | exact (HW).out | refine below_drewN ?_ _ | refine Below.drew ?_ | refine Below.setCell ?_ (by first | omega | (simp; done) | (simp; omega)) _ | refine Below.alloc ?_ (by first | omega | (simp; done) | (simp; omega)) _))⟩
theorem parsedG_ (s : ByteArray) (w : World) (hM : MxL w) (hs : s.size ≤ 9000) : Calls Tryz.prog 79 #[.string s] w (RabO (parF s.data.toList) w) := by
  unfold parF
  exact parsedX_ s _ _ _ _ w hM hs rfl rfl
end Go.Proofs.YtpphnnijnnfngaaGreatDoor
