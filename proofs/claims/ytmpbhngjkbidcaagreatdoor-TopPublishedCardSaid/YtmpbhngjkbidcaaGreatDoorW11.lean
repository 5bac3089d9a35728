/-
  The walks of 'signed', of the program and of the specification, and of Signed.
-/
import Derived.Test.YtmpbhngjkbidcaaGreatDoorW10
import Derived.Test.YtmpbhngjkbidcaaGreatDoorW01
namespace Go.Proofs.YtmpbhngjkbidcaaGreatDoor
open Go.RowKit Al

/-- Is a number a signature of a digest? -/
def sigB (m x d num : Int) : Bool := inB num 0 (m - 1) && (pw num x m == d % m)
theorem sigB_no {m x d num : Int} (h : inB num 0 (m - 1) = false) : sigB m x d num = false := by unfold sigB; rw [h]; rfl
theorem sigB_yes {m x d num : Int} (h : inB num 0 (m - 1) = true) : sigB m x d num = (pw num x m == d % m) := by unfold sigB; rw [h]; rfl

set_option maxRecDepth 100000 in
set_option maxHeartbeats 1000000 in
theorem signed_ (m x d num : Int) (w : World) (h1 : plaus m x = true) (hd : 0 ≤ d ∧ d ≤ 2147483646) :
    Calls Tryz.prog 85 #[.agg #[.int .i64 m, .int .i64 x], .int .i64 d, .int .i64 num] w fun e w' => e = .returned (.bool (sigB m x d num)) ∧ Below w.heap.size w w' := by
  have b1 := plaus_true.1 h1
  have H1 := Lib.hid h1
  obtain ⟨d1, d2⟩ := hd
  clear h1
  by_cases h2 : inB num 0 (m - 1) = true
  · have H2 := Lib.hid h2
    have b2 := inB_true.1 h2
    clear h2
    go_enter Tryz.func85, Tryz.ntmps85
    go_wp2_with fail
    refine wp_region_bw2 (by kernel_rfl) (by kernel_rfl) (fun hbwc => ?_)
    repeat (go_big_quiet_step ((first | (go_at_call 71; exact bwSame (within_is _ _ _ _ H2.out _)) | (go_at_call 84; exact bwCall (power_ _ _ _ (by omega) (by omega) (by omega) (by omega) (by omega) _)))))
    refine wpQuiet_nil ?_
    clear hbwc
    intro w3 hb
    have Hw3 := Lib.hid ((show Below w.heap.size w _ from (by repeat (first | exact Below.refl _ _ | assumption | refine below_drewN ?_ _ | refine Below.drew ?_ | refine Below.setCell ?_ (by first | omega | (simp; done) | (simp; omega)) _ | refine Below.alloc ?_ (by first | omega | (simp; done) | (simp; omega)) _))).trans (hb.mono (by first | omega | (simp; done) | (simp; omega))))
    clear hb
    go_wp2_with fail
    go_ret
    exact ⟨ret_bool (sigB_yes H2.out).symm, Hw3.out⟩
  · have h2' : inB num 0 (m - 1) = false := by simpa using h2
    have H2 := Lib.hid h2'
    clear h2 h2'
    go_enter Tryz.func85, Tryz.ntmps85
    go_wp2_with fail
    go_quiet ((go_at_call 71; first | exact quietAdd (within_is _ _ _ _ H2.out _) | exact quiet0 (within_is _ _ _ _ H2.out _)))
    all_goals
      go_wp2_with fail
      go_ret
      exact ⟨ret_bool (sigB_no H2.out).symm, (by repeat (first | exact Below.refl _ _ | assumption | refine below_drewN ?_ _ | refine Below.drew ?_ | refine Below.setCell ?_ (by first | omega | (simp; done) | (simp; omega)) _ | refine Below.alloc ?_ (by first | omega | (simp; done) | (simp; omega)) _))⟩
end Go.Proofs.YtmpbhngjkbidcaaGreatDoor

/-
  The walks of the specification's 'signed', and of Signed on both sides.
-/
namespace Go.Proofs.YtmpbhngjkbidcaaGreatDoor
open Go.RowKit Al

/-- What Signed gives. -/
def signedB (m x num : Int) (a : Alr) : Bool := plaus m x && (okA a && sigB m x (digA a) num)
def signedC (m x : Int) (a : Alr) : Int := if plaus m x then errA (okA a) 101 else 100
def SignedRet (m x num : Int) (a : Alr) (w : World) (e : Ending) (w' : World) : Prop := e = .returned (.tuple #[.bool (signedB m x num a), .int .i64 (signedC m x a)]) ∧ Below w.heap.size w w'
theorem signed_ok {m x num : Int} {a : Alr} (h1 : plaus m x = true) (h2 : okA a = true) : signedB m x num a = sigB m x (digA a) num ∧ signedC m x a = 0 := by
  unfold signedB signedC; rw [h1, h2]; exact ⟨rfl, rfl⟩
theorem signed_bad {m x num : Int} {a : Alr} (h1 : plaus m x = true) (h2 : okA a = false) : signedB m x num a = false ∧ signedC m x a = 101 := by
  unfold signedB signedC; rw [h1, h2]; exact ⟨rfl, rfl⟩
theorem signed_not {m x num : Int} {a : Alr} (h1 : plaus m x = false) : signedB m x num a = false ∧ signedC m x a = 100 := by
  unfold signedB signedC; rw [h1]; exact ⟨rfl, rfl⟩

end Go.Proofs.YtmpbhngjkbidcaaGreatDoor

/-
  The walks of the functions that ask whether a roll is valid.
-/
namespace Go.Proofs.YtmpbhngjkbidcaaGreatDoor
open Go.RowKit Al

/-- The cells of a list of keys. -/
def keyCells (ks : List (Int × Int)) : List Value := ks.flatMap fun k => [.int .i64 k.1, .int .i64 k.2]
theorem keyCells_len (ks : List (Int × Int)) : (keyCells ks).length = ks.length * 2 := by
  induction ks with
  | nil => rfl
  | cons a l ih => simp only [keyCells, List.flatMap_cons, List.length_append, List.length_cons, List.length_nil] at ih ⊢; omega
theorem keyCells_at {ks : List (Int × Int)} {k : Nat} (h : k < ks.length) : (keyCells ks)[k * 2]? = some (.int .i64 ks[k].1) ∧ (keyCells ks)[k * 2 + 1]? = some (.int .i64 ks[k].2) := by
  induction ks generalizing k with
  | nil => exact absurd h (by simp)
  | cons a l ih =>
    cases k with
    | zero => exact ⟨rfl, rfl⟩
    | succ k =>
      have := ih (k := k) (by simpa using h)
      simp only [keyCells, List.flatMap_cons, List.getElem_cons_succ] at this ⊢
      rw [show (k + 1) * 2 = k * 2 + 2 by omega, show k * 2 + 2 + 1 = (k * 2 + 1) + 2 by omega]
      exact this
/-- The cells of a key of a slice. -/
theorem Sl.key_at {w : World} {B n c : Nat} {A : Option Addr} {ks : List (Int × Int)} (h : Sl w B 2 A n c (keyCells ks)) {k : Nat} (hk : k < ks.length) :
    ∃ b off, A = some ⟨b, off, none⟩ ∧ b < B ∧ w.cell? ⟨b, off + k * 2, none⟩ = some (.int .i64 ks[k].1) ∧ w.cell? ⟨b, off + k * 2 + 1, none⟩ = some (.int .i64 ks[k].2) := by
  have hn : n = ks.length := by have := h.len; rw [keyCells_len] at this; omega
  obtain ⟨b, off, e, hb, hc⟩ := h.at_ (by omega)
  obtain ⟨k1, k2⟩ := keyCells_at hk
  exact ⟨b, off, e, hb, hc _ _ k1, by rw [Nat.add_assoc]; exact hc _ _ k2⟩

/-- Is the modulus among these? -/
def modIn (m : Int) (ks : List (Int × Int)) : Bool := ks.any fun k => k.1 == m

/-- Is the key at i plausible, and its modulus that of none ahead? -/
def keyOk (ks : List (Int × Int)) (i : Nat) : Bool := match ks[i]? with
  | some k => plaus k.1 k.2 && !modIn k.1 (ks.take i)
  | none => true
def keysUp (ks : List (Int × Int)) : Nat → Bool
  | 0 => true
  | i + 1 => keysUp ks i && keyOk ks i
/-- Is a roll valid? -/
def rollOk (ks : List (Int × Int)) (q : Int) : Bool := keysUp ks ks.length && (inB ks.length 1 8 && inB q 1 ks.length)
theorem keysUp_false {ks : List (Int × Int)} {i n : Nat} (h : keyOk ks i = false) (hi : i < n) : keysUp ks n = false := by
  induction n with
  | zero => omega
  | succ n ih =>
    rw [keysUp]
    by_cases h1 : i = n
    · rw [← h1, h, Bool.and_false]
    · rw [ih (by omega), Bool.false_and]
theorem keyOk_at {ks : List (Int × Int)} {i : Nat} (h : i < ks.length) : keyOk ks i = (plaus ks[i].1 ks[i].2 && !modIn ks[i].1 (ks.take i)) := by
  unfold keyOk; rw [List.getElem?_eq_getElem h]
theorem modIn_snoc {m : Int} {ks : List (Int × Int)} {i : Nat} (h : i < ks.length) : modIn m (ks.take (i + 1)) = (modIn m (ks.take i) || ks[i].1 == m) := by
  unfold modIn
  rw [List.take_succ_eq_append_getElem h, List.any_append]; simp

theorem modIn_hit {m : Int} {ks : List (Int × Int)} {i : Nat} (h : i < ks.length) (hm : (ks[i].1 == m) = true) : modIn m ks = true := by
  unfold modIn
  rw [List.any_eq_true]
  exact ⟨ks[i], List.getElem_mem h, hm⟩
theorem modIn_miss {m : Int} {ks : List (Int × Int)} {i : Nat} (h : i < ks.length) (hm : (ks[i].1 == m) = false) (hp : modIn m (ks.take i) = false) : modIn m (ks.take (i + 1)) = false := by
  rw [modIn_snoc h, hm, hp]; rfl

set_option maxRecDepth 100000 in
theorem clos_ (m _x m' x' : Int) (b off : Nat) (w : World) (hb : b < w.heap.size) (h1 : w.cell? ⟨b, off, none⟩ = some (.int .i64 m)) :
    Calls Tryz.prog 112 #[.agg #[.int .i64 m', .int .i64 x'], .pointer (some ⟨b, off, none⟩)] w fun e w' => e = .returned (.bool (m' == m)) ∧ Below w.heap.size w w' := by
  go_enter Tryz.func112, Tryz.ntmps112
  go_wp2
  go_ret
  exact ⟨rfl, (by repeat (first | exact Below.refl _ _ | assumption | refine below_drewN ?_ _ | refine Below.drew ?_ | refine Below.setCell ?_ (by first | omega | (simp; done) | (simp; omega)) _ | refine Below.alloc ?_ (by first | omega | (simp; done) | (simp; omega)) _))⟩

/-- The closure that asks for a modulus. -/
@[reducible] def asks (b off : Nat) : Value := .func (.func 112) #[] #[.pointer (some ⟨b, off, none⟩)]
def IxRel (m : Int) (ks : List (Int × Int)) (i : Value) : Prop := ∃ k : Nat, k ≤ ks.length ∧ i = .int .i64 k ∧ Hid (modIn m (ks.take k) = false)
def ixOut (m : Int) (ks : List (Int × Int)) (w : World) (e : Ending) (w' : World) : Prop := ∃ i : Int, e = .returned (.int .i64 i) ∧ Hid (decide (0 ≤ i) = modIn m ks) ∧ Below w.heap.size w w'
set_option maxRecDepth 100000 in
theorem index_ (m x : Int) (ks : List (Int × Int)) (A : Option Addr) (c b off : Nat) (w : World) (hb : b < w.heap.size) (h1 : w.cell? ⟨b, off, none⟩ = some (.int .i64 m)) (h : Sl w w.heap.size 2 A ks.length c (keyCells ks)) :
    Calls Tryz.prog 137 #[.slice A ks.length c, asks b off] w (ixOut m ks w) := by
  have hlen : ks.length ≤ maxLen := Nat.le_trans h.cap h.max
  unfold maxLen at hlen
  go_enter Tryz.func137, Tryz.ntmps137
  go_wp2
  go_loopw [8] (fun i wr => IxRel m ks i ∧ Below w.heap.size w wr) (fun i _ => ks.length - (intOf i).toNat)
  case atStart => exact ⟨⟨0, Nat.zero_le _, rfl, rfl⟩, (by repeat (first | exact Below.refl _ _ | assumption | refine below_drewN ?_ _ | refine Below.drew ?_ | refine Below.setCell ?_ (by first | omega | (simp; done) | (simp; omega)) _ | refine Below.alloc ?_ (by first | omega | (simp; done) | (simp; omega)) _))⟩
  case round =>
    obtain ⟨⟨k, hk, rfl, hp⟩, hbw⟩ := hrel
    by_cases hlt : k < ks.length
    · obtain ⟨kb, ko, rfl, hkb, hk1, hk2⟩ := h.key_at hlt
      have hlt' : (k : Int) < (ks.length : Int) := by omega
      obtain ⟨hcw, hfw⟩ := bcell hbw
      have HB := Lib.hid hbw
      have hz := hbw.size
      clear hbw
      have hcx : wr.cell? ⟨b, off, none⟩ = some (.int .i64 m) := (hcw b off hb).trans h1
      have hbx : b < wr.heap.size := by omega
      by_cases hm : (ks[k].1 == m) = true
      · have HN : Hid (modIn m ks = true) := modIn_hit hlt hm
        have HM := Lib.hid hm
        clear hm
        go_wp2_with fail
        refine (clos_ m x ks[k].1 ks[k].2 b off _ hbx hcx).mono ?_
        rintro e w2 ⟨rfl, hb2⟩
        have HW := Lib.hid (HB.out.trans (hb2.mono hz))
        rw [HM.out]
        clear hb2
        go_wp2_with fail
        go_ret
        exact ⟨_, rfl, by show _ = _; rw [HN.out]; exact decide_eq_true (by omega), HW.out⟩
      · have hm' : (ks[k].1 == m) = false := by simpa using hm
        have HN : Hid (modIn m (ks.take (k + 1)) = false) := modIn_miss hlt hm' hp.out
        have HM := Lib.hid hm'
        clear hm hm'
        go_wp2_with fail
        refine (clos_ m x ks[k].1 ks[k].2 b off _ hbx hcx).mono ?_
        rintro e w2 ⟨rfl, hb2⟩
        have HW := Lib.hid (HB.out.trans (hb2.mono hz))
        rw [HM.out]
        clear hb2
        go_wp2_with fail
        go_roundw
        case rel => exact ⟨⟨k + 1, by omega, by go_num, HN⟩, HW.out⟩
        case measure => simp [intOf]; omega
    · obtain rfl : k = ks.length := by omega
      have HB := Lib.hid hbw
      have HN : Hid (modIn m ks = false) := by
        show _ = _
        rw [← hp.out, List.take_of_length_le (Nat.le_refl _)]
      clear hbw
      go_wp2_with fail
      go_ret
      exact ⟨_, rfl, by show _ = _; rw [HN.out]; rfl, HB.out⟩

set_option maxRecDepth 100000 in
theorem contains_ (m x : Int) (ks : List (Int × Int)) (A : Option Addr) (c b off : Nat) (w : World) (hb : b < w.heap.size) (h1 : w.cell? ⟨b, off, none⟩ = some (.int .i64 m)) (h : Sl w w.heap.size 2 A ks.length c (keyCells ks)) :
    Calls Tryz.prog 111 #[.slice A ks.length c, asks b off] w fun e w' => e = .returned (.bool (modIn m ks)) ∧ Below w.heap.size w w' := by
  have HI := Lib.hid (index_ m x ks A c b off w hb h1 h)
  clear h h1
  go_enter Tryz.func111, Tryz.ntmps111
  go_wp2_with fail
  refine HI.out.mono ?_
  rintro e w2 ⟨i, rfl, hi, hb2⟩
  have HW := Lib.hid hb2
  clear hb2
  go_wp2_with fail
  go_ret
  exact ⟨ret_bool hi.out, HW.out⟩

theorem contains_n (m x : Int) (ks : List (Int × Int)) (n : Nat) (B : Bool) (A : Option Addr) (c b off : Nat) (w : World) (hn : n = ks.length) (hB : modIn m ks = B) (hb : b < w.heap.size) (h1 : w.cell? ⟨b, off, none⟩ = some (.int .i64 m)) (h : Sl w w.heap.size 2 A ks.length c (keyCells ks)) :
    Calls Tryz.prog 111 #[.slice A n c, asks b off] w fun e w' => e = .returned (.bool B) ∧ Below w.heap.size w w' := by
  subst hn hB
  exact contains_ m x ks A c b off w hb h1 h
/-- A roll lies in the world: its keys are a slice in memory. -/
abbrev Rin (w : World) (ks : List (Int × Int)) (A : Option Addr) (c : Nat) : Prop := Sl w w.heap.size 2 A ks.length c (keyCells ks)
@[reducible] def rollV (ks : List (Int × Int)) (A : Option Addr) (c : Nat) (q : Int) : Value := .agg #[.slice A ks.length c, .int .i64 q]
theorem Rin.below {w w' : World} {ks : List (Int × Int)} {A : Option Addr} {c : Nat} (h : Rin w ks A c) (hb : Below w.heap.size w w') : Rin w' ks A c := (Sl.below h hb).more hb.size
theorem Sl.key_take {w : World} {B n c : Nat} {A : Option Addr} {ks : List (Int × Int)} (h : Sl w B 2 A n c (keyCells ks)) {i : Nat} (hi : i < ks.length) : Sl w B 2 A (ks.take i).length c (keyCells (ks.take i)) := by
  have hn : n = ks.length := by have := h.len; rw [keyCells_len] at this; omega
  have hc := h.cap
  refine ⟨keyCells_len _, by rw [List.length_take]; omega, h.max, h.nil_, fun _ => ?_⟩
  obtain ⟨b, off, e, hb, hx⟩ := h.at_ (by omega)
  refine ⟨b, off, e, hb, fun j u hu => hx j u ?_⟩
  have he : keyCells ks = keyCells (ks.take i) ++ keyCells (ks.drop i) := by
    unfold keyCells
    rw [← List.flatMap_append, List.take_append_drop]
  rw [he, List.getElem?_append_left (List.getElem?_eq_some_iff.1 hu).1]
  exact hu

def VRel (ks : List (Int × Int)) (i : Value) : Prop := ∃ k : Nat, k ≤ ks.length ∧ i = .int .i64 k ∧ Hid (keysUp ks k = true)
theorem keysUp_next {ks : List (Int × Int)} {i : Nat} (h : i < ks.length) (hu : keysUp ks i = true) (h1 : plaus ks[i].1 ks[i].2 = true) (h2 : modIn ks[i].1 (ks.take i) = false) : keysUp ks (i + 1) = true := by
  rw [keysUp, hu, keyOk_at h, h1, h2]; rfl
theorem rollOk_f1 {ks : List (Int × Int)} {q : Int} {i : Nat} (h : i < ks.length) (h1 : plaus ks[i].1 ks[i].2 = false) : rollOk ks q = false := by
  unfold rollOk; rw [keysUp_false (i := i) (by rw [keyOk_at h, h1]; rfl) h]; rfl
theorem rollOk_f2 {ks : List (Int × Int)} {q : Int} {i : Nat} (h : i < ks.length) (h1 : modIn ks[i].1 (ks.take i) = true) : rollOk ks q = false := by
  unfold rollOk; rw [keysUp_false (i := i) (by rw [keyOk_at h, h1, Bool.not_true, Bool.and_false]) h]; rfl
theorem rollOk_u {ks : List (Int × Int)} {q : Int} (h : keysUp ks ks.length = true) : rollOk ks q = (inB ks.length 1 8 && inB q 1 ks.length) := by
  unfold rollOk; rw [h, Bool.true_and]

set_option maxRecDepth 100000 in
set_option maxHeartbeats 1000000 in
theorem rollValid_ (ks : List (Int × Int)) (q : Int) (A : Option Addr) (c : Nat) (w : World) (h : Rin w ks A c) :
    Calls Tryz.prog 73 #[rollV ks A c q] w fun e w' => e = .returned (.bool (rollOk ks q)) ∧ Below w.heap.size w w' := by
  have hlen : ks.length ≤ maxLen := Nat.le_trans h.cap h.max
  have hcap : ks.length ≤ c := h.cap
  unfold maxLen at hlen
  go_enter Tryz.func73, Tryz.ntmps73
  go_wp2
  go_loopw [8] (fun i wr => VRel ks i ∧ Below (w.heap.size + 1) (w.alloc (.cells #[.slice A ks.length c, .int .i64 q] 101)) wr) (fun i _ => ks.length - (intOf i).toNat)
  case atStart => exact ⟨⟨0, Nat.zero_le _, rfl, rfl⟩, (by repeat (first | exact Below.refl _ _ | assumption | refine below_drewN ?_ _ | refine Below.drew ?_ | refine Below.setCell ?_ (by first | omega | (simp; done) | (simp; omega)) _ | refine Below.alloc ?_ (by first | omega | (simp; done) | (simp; omega)) _))⟩
  case round =>
    obtain ⟨⟨k, hk, rfl, hp⟩, hbw⟩ := hrel
    obtain ⟨hcw, hfw⟩ := bcell hbw
    have HB := Lib.hid hbw
    have hz := hbw.size
    simp at hz
    have hz' : w.heap.size < wr.heap.size := by omega
    have hWB := Lib.hid ((show Below w.heap.size w _ from (Below.refl _ _).alloc (Nat.le_refl _) _).trans (hbw.mono (by omega)))
    clear hbw
    by_cases hlt : k < ks.length
    · obtain ⟨kb, ko, rfl, hkb, hk1, hk2⟩ := h.key_at hlt
      have hlt' : (k : Int) < (ks.length : Int) := by omega
      have hkb' : kb < w.heap.size + 1 := by omega
      have hkb2 : kb < wr.heap.size := by omega
      have HS := Lib.hid (h.below hWB.out)
      have hq : wr.cell? ⟨w.heap.size, 0, none⟩ = some (.slice (some ⟨kb, ko, none⟩) ks.length c) := (hcw _ _ (by omega)).trans (by simp [go_sem])
      by_cases h1 : plaus ks[k].1 ks[k].2 = true
      · have H1 := Lib.hid h1
        by_cases h2 : modIn ks[k].1 (ks.take k) = true
        · have H2 := Lib.hid h2
          have HF := Lib.hid (rollOk_f2 (q := q) hlt h2)
          clear h1 h2
          go_wp2_with fail
          refine (plausible_is _ _ _ H1.out _).mono ?_
          rintro e w1 ⟨rfl, hb⟩
          obtain ⟨hcw1, hfw1⟩ := bcell hb
          have Hw1 := Lib.hid ((HB).out.trans (Below.trans (by (repeat (first | exact Below.refl _ _ | assumption | refine below_drewN ?_ _ | refine Below.drew ?_ | refine Below.setCell ?_ (by first | omega | (simp; done) | (simp; omega)) _ | refine Below.alloc ?_ (by first | omega | (simp; done) | (simp; omega)) _))) (hb.mono (by first | omega | (simp; done) | (simp; omega)))))
          have hzw1 := hb.size
          try simp at hzw1
          clear hb
          have hz1 : wr.heap.size < w1.heap.size := by omega
          have hW1 : Below w.heap.size w w1 := ((Below.refl _ _).alloc (Nat.le_refl _) _).trans (Hw1.out.mono (by omega))
          have hcz : w1.cell? ⟨wr.heap.size, 0, none⟩ = some (.int .i64 ks[k].1) := by rw [hcw1 _ _ (by first | omega | (simp; done) | (simp; omega))]; simp [go_sem]
          have hS1 : Sl w1 w1.heap.size 2 (some ⟨kb, ko, none⟩) (ks.take k).length c (keyCells (ks.take k)) := (Sl.below (h.key_take hlt) hW1).more hW1.size
          go_wp2_with fail
          refine (contains_n ks[k].1 ks[k].2 (ks.take k) k true _ _ _ _ _ (by rw [List.length_take]; omega) H2.out hz1 hcz hS1).mono ?_
          rintro e w2 ⟨rfl, hb⟩
          have Hw2 := Lib.hid (Hw1.out.trans (hb.mono (by omega)))
          have HW2 := Lib.hid (hW1.trans (hb.mono hW1.size))
          clear hb hcz hS1 hW1
          go_wp2_with fail
          go_ret
          exact ⟨ret_bool HF.out.symm, HW2.out⟩
        · have h2' : modIn ks[k].1 (ks.take k) = false := by simpa using h2
          have H2 := Lib.hid h2'
          have HN : Hid (keysUp ks (k + 1) = true) := keysUp_next hlt hp.out h1 h2'
          clear h1 h2 h2'
          go_wp2_with fail
          refine (plausible_is _ _ _ H1.out _).mono ?_
          rintro e w1 ⟨rfl, hb⟩
          obtain ⟨hcw1, hfw1⟩ := bcell hb
          have Hw1 := Lib.hid ((HB).out.trans (Below.trans (by (repeat (first | exact Below.refl _ _ | assumption | refine below_drewN ?_ _ | refine Below.drew ?_ | refine Below.setCell ?_ (by first | omega | (simp; done) | (simp; omega)) _ | refine Below.alloc ?_ (by first | omega | (simp; done) | (simp; omega)) _))) (hb.mono (by first | omega | (simp; done) | (simp; omega)))))
          have hzw1 := hb.size
          try simp at hzw1
          clear hb
          have hz1 : wr.heap.size < w1.heap.size := by omega
          have hW1 : Below w.heap.size w w1 := ((Below.refl _ _).alloc (Nat.le_refl _) _).trans (Hw1.out.mono (by omega))
          have hcz : w1.cell? ⟨wr.heap.size, 0, none⟩ = some (.int .i64 ks[k].1) := by rw [hcw1 _ _ (by first | omega | (simp; done) | (simp; omega))]; simp [go_sem]
          have hS1 : Sl w1 w1.heap.size 2 (some ⟨kb, ko, none⟩) (ks.take k).length c (keyCells (ks.take k)) := (Sl.below (h.key_take hlt) hW1).more hW1.size
          go_wp2_with fail
          refine (contains_n ks[k].1 ks[k].2 (ks.take k) k false _ _ _ _ _ (by rw [List.length_take]; omega) H2.out hz1 hcz hS1).mono ?_
          rintro e w2 ⟨rfl, hb⟩
          have Hw2 := Lib.hid (Hw1.out.trans (hb.mono (by omega)))
          have HW2 := Lib.hid (hW1.trans (hb.mono hW1.size))
          clear hb hcz hS1 hW1
          go_wp2_with fail
          go_roundw
          case rel => exact ⟨⟨k + 1, by omega, by go_num, HN⟩, Hw2.out⟩
          case measure => simp [intOf]; omega
      · have h1' : plaus ks[k].1 ks[k].2 = false := by simpa using h1
        have H1 := Lib.hid h1'
        have HF := Lib.hid (rollOk_f1 (q := q) hlt h1')
        clear h1 h1'
        go_wp2_with fail
        refine (plausible_is _ _ _ H1.out _).mono ?_
        rintro e w1 ⟨rfl, hb⟩
        obtain ⟨hcw1, hfw1⟩ := bcell hb
        have Hw1 := Lib.hid ((HB).out.trans (Below.trans (by (repeat (first | exact Below.refl _ _ | assumption | refine below_drewN ?_ _ | refine Below.drew ?_ | refine Below.setCell ?_ (by first | omega | (simp; done) | (simp; omega)) _ | refine Below.alloc ?_ (by first | omega | (simp; done) | (simp; omega)) _))) (hb.mono (by first | omega | (simp; done) | (simp; omega)))))
        have hzw1 := hb.size
        try simp at hzw1
        clear hb
        go_wp2_with fail
        go_ret
        exact ⟨ret_bool HF.out.symm, ((Below.refl _ _).alloc (Nat.le_refl _) _).trans (Hw1.out.mono (by omega))⟩
    · obtain rfl : k = ks.length := by omega
      have HK := Lib.hid (rollOk_u (q := q) hp.out)
      go_wp2_with (first | (go_at_call 71; refine (within_ _ _ _ _).mono ?_; rintro e w' ⟨rfl, rfl⟩))
      all_goals
        go_ret
        exact ⟨ret_bool (by rw [HK.out]; simp [*]), hWB.out⟩
end Go.Proofs.YtmpbhngjkbidcaaGreatDoor
