/-
  The walks of the functions that ask whether a roll is valid.
-/
import Derived.Test.YtohfofecbdfkgaaGreatDoorU05
namespace Go.Proofs.YtohfofecbdfkgaaGreatDoor
open Go.RowKit Al

/-- The cells of a list of keys. -/
def keyCells (ks : List (Int × Int)) : List Value := ks.flatMap fun k => [.int .i64 k.1, .int .i64 k.2]
theorem keyCells_len (ks : List (Int × Int)) : (keyCells ks).length = ks.length * 2 := by
  induction ks with
  | nil => rfl
  | cons a l ih => simp only [keyCells, List.flatMap_cons, List.length_append, List.length_cons, List.length_nil] at ih ⊢; omega
theorem keyCells_at {ks : List (Int × Int)} {k : Nat} (h : k < ks.length) : (keyCells ks)[k * 2]? = some (.int .i64 ks[k].1) ∧ (keyCells ks)[k * 2 + 1]? = some (.int .i64 ks[k].2) := by
  induction ks generalizing k with
  | nil => exact absurd h (by simp)
  | cons a l ih =>
    cases k with
    | zero => exact ⟨rfl, rfl⟩
    | succ k =>
      have := ih (k := k) (by simpa using h)
      simp only [keyCells, List.flatMap_cons, List.getElem_cons_succ] at this ⊢
      rw [show (k + 1) * 2 = k * 2 + 2 by omega, show k * 2 + 2 + 1 = (k * 2 + 1) + 2 by omega]
      exact this
/-- The cells of a key of a slice. -/
theorem Sl.key_at {w : World} {B n c : Nat} {A : Option Addr} {ks : List (Int × Int)} (h : Sl w B 2 A n c (keyCells ks)) {k : Nat} (hk : k < ks.length) :
    ∃ b off, A = some ⟨b, off, none⟩ ∧ b < B ∧ w.cell? ⟨b, off + k * 2, none⟩ = some (.int .i64 ks[k].1) ∧ w.cell? ⟨b, off + k * 2 + 1, none⟩ = some (.int .i64 ks[k].2) := by
  have hn : n = ks.length := by have := h.len; rw [keyCells_len] at this; omega
  obtain ⟨b, off, e, hb, hc⟩ := h.at_ (by omega)
  obtain ⟨k1, k2⟩ := keyCells_at hk
  exact ⟨b, off, e, hb, hc _ _ k1, by rw [Nat.add_assoc]; exact hc _ _ k2⟩

/-- Is the modulus among these? -/
def modIn (m : Int) (ks : List (Int × Int)) : Bool := ks.any fun k => k.1 == m

/-- Is the key at i plausible, and its modulus that of none ahead? -/
def keyOk (ks : List (Int × Int)) (i : Nat) : Bool := match ks[i]? with
  | some k => plaus k.1 k.2 && !modIn k.1 (ks.take i)
  | none => true
def keysUp (ks : List (Int × Int)) : Nat → Bool
  | 0 => true
  | i + 1 => keysUp ks i && keyOk ks i
/-- Is a roll valid? -/
def rollOk (ks : List (Int × Int)) (q : Int) : Bool := keysUp ks ks.length && (inB ks.length 1 8 && inB q 1 ks.length)
theorem keysUp_false {ks : List (Int × Int)} {i n : Nat} (h : keyOk ks i = false) (hi : i < n) : keysUp ks n = false := by
  induction n with
  | zero => omega
  | succ n ih =>
    rw [keysUp]
    by_cases h1 : i = n
    · rw [← h1, h, Bool.and_false]
    · rw [ih (by omega), Bool.false_and]
theorem keyOk_at {ks : List (Int × Int)} {i : Nat} (h : i < ks.length) : keyOk ks i = (plaus ks[i].1 ks[i].2 && !modIn ks[i].1 (ks.take i)) := by
  unfold keyOk; rw [List.getElem?_eq_getElem h]
theorem modIn_snoc {m : Int} {ks : List (Int × Int)} {i : Nat} (h : i < ks.length) : modIn m (ks.take (i + 1)) = (modIn m (ks.take i) || ks[i].1 == m) := by
  unfold modIn
  rw [List.take_succ_eq_append_getElem h, List.any_append]; simp

theorem modIn_hit {m : Int} {ks : List (Int × Int)} {i : Nat} (h : i < ks.length) (hm : (ks[i].1 == m) = true) : modIn m ks = true := by
  unfold modIn
  rw [List.any_eq_true]
  exact ⟨ks[i], List.getElem_mem h, hm⟩
theorem modIn_miss {m : Int} {ks : List (Int × Int)} {i : Nat} (h : i < ks.length) (hm : (ks[i].1 == m) = false) (hp : modIn m (ks.take i) = false) : modIn m (ks.take (i + 1)) = false := by
  rw [modIn_snoc h, hm, hp]; rfl

set_option maxRecDepth 100000 in
theorem clos_ (m _x m' x' : Int) (b off : Nat) (w : World) (hb : b < w.heap.size) (h1 : w.cell? ⟨b, off, none⟩ = some (.int .i64 m)) :
    Calls Tryz.prog 131 #[.agg #[.int .i64 m', .int .i64 x'], .pointer (some ⟨b, off, none⟩)] w fun e w' => e = .returned (.bool (m' == m)) ∧ Below w.heap.size w w' := by
  go_enter Tryz.func131, Tryz.ntmps131
  go_wp2
  go_ret
  exact ⟨rfl, (by repeat (first | exact Below.refl _ _ | assumption | refine below_drewN ?_ _ | refine Below.drew ?_ | refine Below.setCell ?_ (by first | omega | (simp; done) | (simp; omega)) _ | refine Below.alloc ?_ (by first | omega | (simp; done) | (simp; omega)) _))⟩

/-- The closure that asks for a modulus. -/
@[reducible] def asks (b off : Nat) : Value := .func (.func 131) #[] #[.pointer (some ⟨b, off, none⟩)]
def IxRel (m : Int) (ks : List (Int × Int)) (i : Value) : Prop := ∃ k : Nat, k ≤ ks.length ∧ i = .int .i64 k ∧ Hid (modIn m (ks.take k) = false)
def ixOut (m : Int) (ks : List (Int × Int)) (w : World) (e : Ending) (w' : World) : Prop := ∃ i : Int, e = .returned (.int .i64 i) ∧ Hid (decide (0 ≤ i) = modIn m ks) ∧ Below w.heap.size w w'
set_option maxRecDepth 100000 in
theorem index_ (m x : Int) (ks : List (Int × Int)) (A : Option Addr) (c b off : Nat) (w : World) (hb : b < w.heap.size) (h1 : w.cell? ⟨b, off, none⟩ = some (.int .i64 m)) (h : Sl w w.heap.size 2 A ks.length c (keyCells ks)) :
    Calls Tryz.prog 161 #[.slice A ks.length c, asks b off] w (ixOut m ks w) := by
  have hlen : ks.length ≤ maxLen := Nat.le_trans h.cap h.max
  unfold maxLen at hlen
  go_enter Tryz.func161, Tryz.ntmps161
  go_wp2
  go_loopw [8] (fun i wr => IxRel m ks i ∧ Below w.heap.size w wr) (fun i _ => ks.length - (intOf i).toNat)
  case atStart => exact ⟨⟨0, Nat.zero_le _, rfl, rfl⟩, (by repeat (first | exact Below.refl _ _ | assumption | refine below_drewN ?_ _ | refine Below.drew ?_ | refine Below.setCell ?_ (by first | omega | (simp; done) | (simp; omega)) _ | refine Below.alloc ?_ (by first | omega | (simp; done) | (simp; omega)) _))⟩
  case round =>
    obtain ⟨⟨k, hk, rfl, hp⟩, hbw⟩ := hrel
    by_cases hlt : k < ks.length
    · obtain ⟨kb, ko, rfl, hkb, hk1, hk2⟩ := h.key_at hlt
      have hlt' : (k : Int) < (ks.length : Int) := by omega
      obtain ⟨hcw, hfw⟩ := bcell hbw
      have HB := Lib.hid hbw
      have hz := hbw.size
      clear hbw
      have hcx : wr.cell? ⟨b, off, none⟩ = some (.int .i64 m) := (hcw b off hb).trans h1
      have hbx : b < wr.heap.size := by omega
      by_cases hm : (ks[k].1 == m) = true
      · have HN : Hid (modIn m ks = true) := modIn_hit hlt hm
        have HM := Lib.hid hm
        clear hm
        go_wp2_with fail
        refine (clos_ m x ks[k].1 ks[k].2 b off _ hbx hcx).mono ?_
        rintro e w2 ⟨rfl, hb2⟩
        have HW := Lib.hid (HB.out.trans (hb2.mono hz))
        rw [HM.out]
        clear hb2
        go_wp2_with fail
        go_ret
        exact ⟨_, rfl, by show _ = _; rw [HN.out]; exact decide_eq_true (by omega), HW.out⟩
      · have hm' : (ks[k].1 == m) = false := by simpa using hm
        have HN : Hid (modIn m (ks.take (k + 1)) = false) := modIn_miss hlt hm' hp.out
        have HM := Lib.hid hm'
        clear hm hm'
        go_wp2_with fail
        refine (clos_ m x ks[k].1 ks[k].2 b off _ hbx hcx).mono ?_
        rintro e w2 ⟨rfl, hb2⟩
        have HW := Lib.hid (HB.out.trans (hb2.mono hz))
        rw [HM.out]
        clear hb2
        go_wp2_with fail
        go_roundw
        case rel => exact ⟨⟨k + 1, by omega, by go_num, HN⟩, HW.out⟩
        case measure => simp [intOf]; omega
    · obtain rfl : k = ks.length := by omega
      have HB := Lib.hid hbw
      have HN : Hid (modIn m ks = false) := by
        show _ = _
        rw [← hp.out, List.take_of_length_le (Nat.le_refl _)]
      clear hbw
      go_wp2_with fail
      go_ret
      exact ⟨_, rfl, by show _ = _; rw [HN.out]; rfl, HB.out⟩

set_option maxRecDepth 100000 in
theorem contains_ (m x : Int) (ks : List (Int × Int)) (A : Option Addr) (c b off : Nat) (w : World) (hb : b < w.heap.size) (h1 : w.cell? ⟨b, off, none⟩ = some (.int .i64 m)) (h : Sl w w.heap.size 2 A ks.length c (keyCells ks)) :
    Calls Tryz.prog 130 #[.slice A ks.length c, asks b off] w fun e w' => e = .returned (.bool (modIn m ks)) ∧ Below w.heap.size w w' := by
  have HI := Lib.hid (index_ m x ks A c b off w hb h1 h)
  clear h h1
  go_enter Tryz.func130, Tryz.ntmps130
  go_wp2_with fail
  refine HI.out.mono ?_
  rintro e w2 ⟨i, rfl, hi, hb2⟩
  have HW := Lib.hid hb2
  clear hb2
  go_wp2_with fail
  go_ret
  exact ⟨ret_bool hi.out, HW.out⟩

theorem contains_n (m x : Int) (ks : List (Int × Int)) (n : Nat) (B : Bool) (A : Option Addr) (c b off : Nat) (w : World) (hn : n = ks.length) (hB : modIn m ks = B) (hb : b < w.heap.size) (h1 : w.cell? ⟨b, off, none⟩ = some (.int .i64 m)) (h : Sl w w.heap.size 2 A ks.length c (keyCells ks)) :
    Calls Tryz.prog 130 #[.slice A n c, asks b off] w fun e w' => e = .returned (.bool B) ∧ Below w.heap.size w w' := by
  subst hn hB
  exact contains_ m x ks A c b off w hb h1 h
/-- A roll lies in the world: its keys are a slice in memory. -/
abbrev Rin (w : World) (ks : List (Int × Int)) (A : Option Addr) (c : Nat) : Prop := Sl w w.heap.size 2 A ks.length c (keyCells ks)
@[reducible] def rollV (ks : List (Int × Int)) (A : Option Addr) (c : Nat) (q : Int) : Value := .agg #[.slice A ks.length c, .int .i64 q]
theorem Rin.below {w w' : World} {ks : List (Int × Int)} {A : Option Addr} {c : Nat} (h : Rin w ks A c) (hb : Below w.heap.size w w') : Rin w' ks A c := (Sl.below h hb).more hb.size
theorem Sl.key_take {w : World} {B n c : Nat} {A : Option Addr} {ks : List (Int × Int)} (h : Sl w B 2 A n c (keyCells ks)) {i : Nat} (hi : i < ks.length) : Sl w B 2 A (ks.take i).length c (keyCells (ks.take i)) := by
  have hn : n = ks.length := by have := h.len; rw [keyCells_len] at this; omega
  have hc := h.cap
  refine ⟨keyCells_len _, by rw [List.length_take]; omega, h.max, h.nil_, fun _ => ?_⟩
  obtain ⟨b, off, e, hb, hx⟩ := h.at_ (by omega)
  refine ⟨b, off, e, hb, fun j u hu => hx j u ?_⟩
  have he : keyCells ks = keyCells (ks.take i) ++ keyCells (ks.drop i) := by
    unfold keyCells
    rw [← List.flatMap_append, List.take_append_drop]
  rw [he, List.getElem?_append_left (List.getElem?_eq_some_iff.1 hu).1]
  exact hu

def VRel (ks : List (Int × Int)) (i : Value) : Prop := ∃ k : Nat, k ≤ ks.length ∧ i = .int .i64 k ∧ Hid (keysUp ks k = true)
theorem keysUp_next {ks : List (Int × Int)} {i : Nat} (h : i < ks.length) (hu : keysUp ks i = true) (h1 : plaus ks[i].1 ks[i].2 = true) (h2 : modIn ks[i].1 (ks.take i) = false) : keysUp ks (i + 1) = true := by
  rw [keysUp, hu, keyOk_at h, h1, h2]; rfl
theorem rollOk_f1 {ks : List (Int × Int)} {q : Int} {i : Nat} (h : i < ks.length) (h1 : plaus ks[i].1 ks[i].2 = false) : rollOk ks q = false := by
  unfold rollOk; rw [keysUp_false (i := i) (by rw [keyOk_at h, h1]; rfl) h]; rfl
theorem rollOk_f2 {ks : List (Int × Int)} {q : Int} {i : Nat} (h : i < ks.length) (h1 : modIn ks[i].1 (ks.take i) = true) : rollOk ks q = false := by
  unfold rollOk; rw [keysUp_false (i := i) (by rw [keyOk_at h, h1, Bool.not_true, Bool.and_false]) h]; rfl
theorem rollOk_u {ks : List (Int × Int)} {q : Int} (h : keysUp ks ks.length = true) : rollOk ks q = (inB ks.length 1 8 && inB q 1 ks.length) := by
  unfold rollOk; rw [h, Bool.true_and]

set_option maxRecDepth 100000 in
set_option maxHeartbeats 1000000 in
theorem rollValid_ (ks : List (Int × Int)) (q : Int) (A : Option Addr) (c : Nat) (w : World) (h : Rin w ks A c) :
    Calls Tryz.prog 94 #[rollV ks A c q] w fun e w' => e = .returned (.bool (rollOk ks q)) ∧ Below w.heap.size w w' := by
  have hlen : ks.length ≤ maxLen := Nat.le_trans h.cap h.max
  have hcap : ks.length ≤ c := h.cap
  unfold maxLen at hlen
  go_enter Tryz.func94, Tryz.ntmps94
  go_wp2
  go_loopw [8] (fun i wr => VRel ks i ∧ Below (w.heap.size + 1) (w.alloc (.cells #[.slice A ks.length c, .int .i64 q] 99)) wr) (fun i _ => ks.length - (intOf i).toNat)
  case atStart => exact ⟨⟨0, Nat.zero_le _, rfl, rfl⟩, (by repeat (first | exact Below.refl _ _ | assumption | refine below_drewN ?_ _ | refine Below.drew ?_ | refine Below.setCell ?_ (by first | omega | (simp; done) | (simp; omega)) _ | refine Below.alloc ?_ (by first | omega | (simp; done) | (simp; omega)) _))⟩
  case round =>
    obtain ⟨⟨k, hk, rfl, hp⟩, hbw⟩ := hrel
    obtain ⟨hcw, hfw⟩ := bcell hbw
    have HB := Lib.hid hbw
    have hz := hbw.size
    simp at hz
    have hz' : w.heap.size < wr.heap.size := by omega
    have hWB := Lib.hid ((show Below w.heap.size w _ from (Below.refl _ _).alloc (Nat.le_refl _) _).trans (hbw.mono (by omega)))
    clear hbw
    by_cases hlt : k < ks.length
    · obtain ⟨kb, ko, rfl, hkb, hk1, hk2⟩ := h.key_at hlt
      have hlt' : (k : Int) < (ks.length : Int) := by omega
      have hkb' : kb < w.heap.size + 1 := by omega
      have hkb2 : kb < wr.heap.size := by omega
      have HS := Lib.hid (h.below hWB.out)
      have hq : wr.cell? ⟨w.heap.size, 0, none⟩ = some (.slice (some ⟨kb, ko, none⟩) ks.length c) := (hcw _ _ (by omega)).trans (by simp [go_sem])
      by_cases h1 : plaus ks[k].1 ks[k].2 = true
      · have H1 := Lib.hid h1
        by_cases h2 : modIn ks[k].1 (ks.take k) = true
        · have H2 := Lib.hid h2
          have HF := Lib.hid (rollOk_f2 (q := q) hlt h2)
          clear h1 h2
          go_wp2_with fail
          refine (plausible_is _ _ _ H1.out _).mono ?_
          rintro e w1 ⟨rfl, hb⟩
          obtain ⟨hcw1, hfw1⟩ := bcell hb
          have Hw1 := Lib.hid ((HB).out.trans (Below.trans (by (repeat (first | exact Below.refl _ _ | assumption | refine below_drewN ?_ _ | refine Below.drew ?_ | refine Below.setCell ?_ (by first | omega | (simp; done) | (simp; omega)) _ | refine Below.alloc ?_ (by first | omega | (simp; done) | (simp; omega)) _))) (hb.mono (by first | omega | (simp; done) | (simp; omega)))))
          have hzw1 := hb.size
          try simp at hzw1
          clear hb
          have hz1 : wr.heap.size < w1.heap.size := by omega
          have hW1 : Below w.heap.size w w1 := ((Below.refl _ _).alloc (Nat.le_refl _) _).trans (Hw1.out.mono (by omega))
          have hcz : w1.cell? ⟨wr.heap.size, 0, none⟩ = some (.int .i64 ks[k].1) := by rw [hcw1 _ _ (by first | omega | (simp; done) | (simp; omega))]; simp [go_sem]
          have hS1 : Sl w1 w1.heap.size 2 (some ⟨kb, ko, none⟩) (ks.take k).length c (keyCells (ks.take k)) := (Sl.below (h.key_take hlt) hW1).more hW1.size
          go_wp2_with fail
          refine (contains_n ks[k].1 ks[k].2 (ks.take k) k true _ _ _ _ _ (by rw [List.length_take]; omega) H2.out hz1 hcz hS1).mono ?_
          rintro e w2 ⟨rfl, hb⟩
          have Hw2 := Lib.hid (Hw1.out.trans (hb.mono (by omega)))
          have HW2 := Lib.hid (hW1.trans (hb.mono hW1.size))
          clear hb hcz hS1 hW1
          go_wp2_with fail
          go_ret
          exact ⟨ret_bool HF.out.symm, HW2.out⟩
        · have h2' : modIn ks[k].1 (ks.take k) = false := by simpa using h2
          have H2 := Lib.hid h2'
          have HN : Hid (keysUp ks (k + 1) = true) := keysUp_next hlt hp.out h1 h2'
          clear h1 h2 h2'
          go_wp2_with fail
          refine (plausible_is _ _ _ H1.out _).mono ?_
          rintro e w1 ⟨rfl, hb⟩
          obtain ⟨hcw1, hfw1⟩ := bcell hb
          have Hw1 := Lib.hid ((HB).out.trans (Below.trans (by (repeat (first | exact Below.refl _ _ | assumption | refine below_drewN ?_ _ | refine Below.drew ?_ | refine Below.setCell ?_ (by first | omega | (simp; done) | (simp; omega)) _ | refine Below.alloc ?_ (by first | omega | (simp; done) | (simp; omega)) _))) (hb.mono (by first | omega | (simp; done) | (simp; omega)))))
          have hzw1 := hb.size
          try simp at hzw1
          clear hb
          have hz1 : wr.heap.size < w1.heap.size := by omega
          have hW1 : Below w.heap.size w w1 := ((Below.refl _ _).alloc (Nat.le_refl _) _).trans (Hw1.out.mono (by omega))
          have hcz : w1.cell? ⟨wr.heap.size, 0, none⟩ = some (.int .i64 ks[k].1) := by rw [hcw1 _ _ (by first | omega | (simp; done) | (simp; omega))]; simp [go_sem]
          have hS1 : Sl w1 w1.heap.size 2 (some ⟨kb, ko, none⟩) (ks.take k).length c (keyCells (ks.take k)) := (Sl.below (h.key_take hlt) hW1).more hW1.size
          go_wp2_with fail
          refine (contains_n ks[k].1 ks[k].2 (ks.take k) k false _ _ _ _ _ (by rw [List.length_take]; omega) H2.out hz1 hcz hS1).mono ?_
          rintro e w2 ⟨rfl, hb⟩
          have Hw2 := Lib.hid (Hw1.out.trans (hb.mono (by omega)))
          have HW2 := Lib.hid (hW1.trans (hb.mono hW1.size))
          clear hb hcz hS1 hW1
          go_wp2_with fail
          go_roundw
          case rel => exact ⟨⟨k + 1, by omega, by go_num, HN⟩, Hw2.out⟩
          case measure => simp [intOf]; omega
      · have h1' : plaus ks[k].1 ks[k].2 = false := by simpa using h1
        have H1 := Lib.hid h1'
        have HF := Lib.hid (rollOk_f1 (q := q) hlt h1')
        clear h1 h1'
        go_wp2_with fail
        refine (plausible_is _ _ _ H1.out _).mono ?_
        rintro e w1 ⟨rfl, hb⟩
        obtain ⟨hcw1, hfw1⟩ := bcell hb
        have Hw1 := Lib.hid ((HB).out.trans (Below.trans (by (repeat (first | exact Below.refl _ _ | assumption | refine below_drewN ?_ _ | refine Below.drew ?_ | refine Below.setCell ?_ (by first | omega | (simp; done) | (simp; omega)) _ | refine Below.alloc ?_ (by first | omega | (simp; done) | (simp; omega)) _))) (hb.mono (by first | omega | (simp; done) | (simp; omega)))))
        have hzw1 := hb.size
        try simp at hzw1
        clear hb
        go_wp2_with fail
        go_ret
        exact ⟨ret_bool HF.out.symm, ((Below.refl _ _).alloc (Nat.le_refl _) _).trans (Hw1.out.mono (by omega))⟩
    · obtain rfl : k = ks.length := by omega
      have HK := Lib.hid (rollOk_u (q := q) hp.out)
      go_wp2_with (first | (go_at_call 50; refine (within_ _ _ _ _).mono ?_; rintro e w' ⟨rfl, rfl⟩))
      all_goals
        go_ret
        exact ⟨ret_bool (by rw [HK.out]; simp [*]), hWB.out⟩
end Go.Proofs.YtohfofecbdfkgaaGreatDoor

/-
  The walks of the functions that ask whether a notice is valid.
-/
namespace Go.Proofs.YtohfofecbdfkgaaGreatDoor
open Go.RowKit Al

/-- A notice: an alert and its signatures (signer, number). -/
structure Ntc where
  a : Alr
  sg : List (Int × Int)
@[reducible] def Ntc.val (n : Ntc) (A : Option Addr) (c : Nat) (S : Option Addr) (sc : Nat) : Value :=
  .agg #[.string n.a.ev, .int .i64 n.a.ver, .int .i64 n.a.tm, .int .i64 n.a.n, .int .i64 n.a.of, .int .i64 n.a.grid, .slice A n.a.cells.length c, .bool n.a.wd, .int .i64 n.a.before, .slice S n.sg.length sc]
/-- A notice lies in the world. -/
structure NIn (w : World) (n : Ntc) (A : Option Addr) (c : Nat) (S : Option Addr) (sc : Nat) : Prop where
  al : AIn w n.a A c
  sl : Sl w w.heap.size 2 S n.sg.length sc (keyCells n.sg)
theorem NIn.below {w w' : World} {n : Ntc} {A : Option Addr} {c : Nat} {S : Option Addr} {sc : Nat} (h : NIn w n A c S sc) (hb : Below w.heap.size w w') : NIn w' n A c S sc :=
  ⟨h.al.below hb, (h.sl.below hb).more hb.size⟩

/-- Is a signature one of these keys for this digest? -/
def sigK (ks : List (Int × Int)) (d : Int) (s : Int × Int) : Bool := match ks[s.1.toNat]? with
  | some k => sigB k.1 k.2 d s.2
  | none => false
/-- Are the signatures, behind a signer, in order and right? -/
def sigsOk (ks : List (Int × Int)) (d : Int) : Int → List (Int × Int) → Bool
  | _, [] => true
  | last, s :: l => decide (last < s.1) && (decide (s.1 < ks.length) && (sigK ks d s && sigsOk ks d s.1 l))
/-- The error of a notice, for a valid roll. -/
def noticeE (ks : List (Int × Int)) (q : Int) (n : Ntc) : Int :=
  if okA n.a then (if sigsOk ks (digA n.a) (-1) n.sg then (if (n.sg.length : Int) < q then 103 else 0) else 102) else 101
theorem noticeE_bad {ks : List (Int × Int)} {q : Int} {n : Ntc} (h : okA n.a = false) : noticeE ks q n = 101 := by unfold noticeE; rw [h]; rfl
theorem noticeE_sig {ks : List (Int × Int)} {q : Int} {n : Ntc} (h : okA n.a = true) (h2 : sigsOk ks (digA n.a) (-1) n.sg = false) : noticeE ks q n = 102 := by unfold noticeE; rw [h, h2]; rfl
theorem noticeE_few {ks : List (Int × Int)} {q : Int} {n : Ntc} (h : okA n.a = true) (h2 : sigsOk ks (digA n.a) (-1) n.sg = true) (h3 : (n.sg.length : Int) < q) : noticeE ks q n = 103 := by unfold noticeE; rw [h, h2, if_pos h3]; rfl
theorem noticeE_ok {ks : List (Int × Int)} {q : Int} {n : Ntc} (h : okA n.a = true) (h2 : sigsOk ks (digA n.a) (-1) n.sg = true) (h3 : ¬ (n.sg.length : Int) < q) : noticeE ks q n = 0 := by unfold noticeE; rw [h, h2, if_neg h3]; rfl

theorem sigsOk_at {ks sg : List (Int × Int)} {d last : Int} {k : Nat} (h : k < sg.length) : sigsOk ks d last (sg.drop k) = (decide (last < sg[k].1) && (decide (sg[k].1 < ks.length) && (sigK ks d sg[k] && sigsOk ks d sg[k].1 (sg.drop (k + 1))))) := by
  rw [List.drop_eq_getElem_cons h]; rfl
theorem sigK_at {ks : List (Int × Int)} {d : Int} {s : Int × Int} (h : s.1.toNat < ks.length) : sigK ks d s = sigB ks[s.1.toNat].1 ks[s.1.toNat].2 d s.2 := by
  unfold sigK; rw [List.getElem?_eq_getElem h]
theorem sigsOk_end {ks sg : List (Int × Int)} {d last : Int} : sigsOk ks d last (sg.drop sg.length) = true := by rw [List.drop_of_length_le (Nat.le_refl _)]; rfl
theorem keysUp_at {ks : List (Int × Int)} {n i : Nat} (h : keysUp ks n = true) (hi : i < n) (hl : i < ks.length) : plaus ks[i].1 ks[i].2 = true := by
  by_cases h1 : keyOk ks i = true
  · rw [keyOk_at hl, Bool.and_eq_true] at h1; exact h1.1
  · rw [keysUp_false (by simpa using h1) hi] at h; cases h
theorem rollOk_key {ks : List (Int × Int)} {q : Int} (h : rollOk ks q = true) {i : Nat} (hi : i < ks.length) : plaus ks[i].1 ks[i].2 = true := by
  unfold rollOk at h; rw [Bool.and_eq_true] at h; exact keysUp_at h.1 hi hi

theorem sigs_go {ks sg : List (Int × Int)} {d last : Int} {k : Nat} (h : k < sg.length) (h1 : last < sg[k].1) (h2 : sg[k].1 < ks.length) (h3 : sigK ks d sg[k] = true) : sigsOk ks d last (sg.drop k) = sigsOk ks d sg[k].1 (sg.drop (k + 1)) := by
  rw [sigsOk_at h, decide_eq_true h1, decide_eq_true h2, h3]; rfl
theorem sigs_f1 {ks sg : List (Int × Int)} {d last : Int} {k : Nat} (h : k < sg.length) (h1 : ¬ last < sg[k].1) : sigsOk ks d last (sg.drop k) = false := by
  rw [sigsOk_at h, decide_eq_false h1]; rfl
theorem sigs_f2 {ks sg : List (Int × Int)} {d last : Int} {k : Nat} (h : k < sg.length) (h2 : ¬ sg[k].1 < ks.length) : sigsOk ks d last (sg.drop k) = false := by
  rw [sigsOk_at h, decide_eq_false h2, Bool.false_and, Bool.and_false]
theorem sigs_f3 {ks sg : List (Int × Int)} {d last : Int} {k : Nat} (h : k < sg.length) (h3 : sigK ks d sg[k] = false) : sigsOk ks d last (sg.drop k) = false := by
  rw [sigsOk_at h, h3, Bool.false_and, Bool.and_false, Bool.and_false]
theorem signed_is (m x d num : Int) (b : Bool) (w : World) (hs : sigB m x d num = b) (h1 : plaus m x = true) (hd : 0 ≤ d ∧ d ≤ 2147483646) :
    Calls Tryz.prog 97 #[.agg #[.int .i64 m, .int .i64 x], .int .i64 d, .int .i64 num] w fun e w' => e = .returned (.bool b) ∧ Below w.heap.size w w' := hs ▸ signed_ m x d num w h1 hd

def NoRel (ks : List (Int × Int)) (n : Ntc) (l i : Value) : Prop := ∃ (k : Nat) (last : Int), k ≤ n.sg.length ∧ l = .int .i64 last ∧ i = .int .i64 k ∧ -1 ≤ last ∧ Hid (sigsOk ks (digA n.a) last (n.sg.drop k) = sigsOk ks (digA n.a) (-1) n.sg)

set_option maxRecDepth 100000 in
set_option maxHeartbeats 2000000 in
theorem rollCheck_ (ks : List (Int × Int)) (q : Int) (K : Option Addr) (kc : Nat) (n : Ntc) (A : Option Addr) (c : Nat) (S : Option Addr) (sc : Nat) (w : World) (hr : Rin w ks K kc) (ho : rollOk ks q = true) (hn : NIn w n A c S sc) (ht : Rdy w) :
    Calls Tryz.prog 58 #[rollV ks K kc q, n.val A c S sc] w fun e w' => e = .returned (.int .i64 (noticeE ks q n)) ∧ Below w.heap.size w w' := by
  have hl1 : ks.length ≤ maxLen := Nat.le_trans hr.cap hr.max
  have hl2 : n.sg.length ≤ maxLen := Nat.le_trans hn.sl.cap hn.sl.max
  unfold maxLen at hl1 hl2
  have HR := Lib.hid hr
  have HN := Lib.hid hn
  have HT := Lib.hid ht
  have HO := Lib.hid ho
  clear hr hn ht ho
  by_cases hk : okA n.a = true
  · have HK := Lib.hid hk
    have HD := Lib.hid (digL_in (textL n.a))
    clear hk
    go_enter Tryz.func58, Tryz.ntmps58
    go_wp2_with fail
    refine (validA_is n.a A c _ true HK.out (HN.out.al.below (by (repeat (first | exact Below.refl _ _ | assumption | refine below_drewN ?_ _ | refine Below.drew ?_ | refine Below.setCell ?_ (by first | omega | (simp; done) | (simp; omega)) _ | refine Below.alloc ?_ (by first | omega | (simp; done) | (simp; omega)) _))))).mono ?_
    rintro e w1 ⟨rfl, hb⟩
    obtain ⟨hcw1, hfw1⟩ := bcell hb
    have Hw1 := Lib.hid ((show Below w.heap.size w _ from (by repeat (first | exact Below.refl _ _ | assumption | refine below_drewN ?_ _ | refine Below.drew ?_ | refine Below.setCell ?_ (by first | omega | (simp; done) | (simp; omega)) _ | refine Below.alloc ?_ (by first | omega | (simp; done) | (simp; omega)) _))).trans (hb.mono (by first | omega | (simp; done) | (simp; omega))))
    have hzw1 := hb.size
    try simp at hzw1
    clear hb
    go_wp2_with fail
    refine (digestA n.a A c _ HK.out (HN.out.al.below Hw1.out) (HT.out.below Hw1.out)).mono ?_
    rintro e w2 ⟨rfl, hb⟩
    obtain ⟨hcw2, hfw2⟩ := bcell hb
    have Hw2 := Lib.hid ((show Below w.heap.size w _ from (by repeat (first | exact Below.refl _ _ | exact (Hw1).out | refine below_drewN ?_ _ | refine Below.drew ?_ | refine Below.setCell ?_ (by first | omega | (simp; done) | (simp; omega)) _ | refine Below.alloc ?_ (by first | omega | (simp; done) | (simp; omega)) _))).trans (hb.mono (by first | omega | (simp; done) | (simp; omega))))
    have hzw2 := hb.size
    try simp at hzw2
    clear hb
    have hz3 : w.heap.size + 1 < w1.heap.size := by omega
    have hz4 : w.heap.size < w1.heap.size := by omega
    have hz5 : w.heap.size + 1 < w2.heap.size := by omega
    have hz6 : w.heap.size < w2.heap.size := by omega
    go_wp2_with fail
    go_loopw [6, 19] (fun l i wr => NoRel ks n l i ∧ Below w2.heap.size w2 wr) (fun _ i _ => n.sg.length - (intOf i).toNat)
    case atStart => exact ⟨⟨0, -1, Nat.zero_le _, rfl, rfl, by omega, rfl⟩, (by repeat (first | exact Below.refl _ _ | assumption | refine below_drewN ?_ _ | refine Below.drew ?_ | refine Below.setCell ?_ (by first | omega | (simp; done) | (simp; omega)) _ | refine Below.alloc ?_ (by first | omega | (simp; done) | (simp; omega)) _))⟩
    case round =>
      obtain ⟨⟨k, last, hkl, rfl, rfl, hla, hp⟩, hbw⟩ := hrel
      obtain ⟨hcw, hfw⟩ := bcell hbw
      have HB := Lib.hid hbw
      have hz := hbw.size
      have hWB := Lib.hid (Hw2.out.trans (hbw.mono Hw2.out.size))
      clear hbw
      by_cases hlt : k < n.sg.length
      · obtain ⟨sb, so, rfl, hsb, hs1, hs2⟩ := (HN.out.below hWB.out).sl.key_at hlt
        have hlt' : (k : Int) < (n.sg.length : Int) := by omega
        have hsb1 : sb < wr.heap.size + 1 := by omega
        by_cases h1 : last < n.sg[k].1
        · have h1' : decide (n.sg[k].1 ≤ last) = false := decide_eq_false (by omega)
          by_cases h2 : n.sg[k].1 < ks.length
          · have h2' : decide ((ks.length : Int) ≤ n.sg[k].1) = false := decide_eq_false (by omega)
            have hti : n.sg[k].1.toNat < ks.length := by omega
            have htz : ((n.sg[k].1.toNat : Nat) : Int) = n.sg[k].1 := by omega
            obtain ⟨kb, ko, rfl, hkb, hk1, hk2⟩ := (HR.out.below hWB.out).key_at hti
            have hkb1 : kb < wr.heap.size + 1 := by omega
            have hz7 : w.heap.size + 1 < wr.heap.size := by omega
            have hz8 : w.heap.size < wr.heap.size := by omega
            have hz9 : w.heap.size + 1 < wr.heap.size + 1 := by omega
            have hz10 : w.heap.size < wr.heap.size + 1 := by omega
            have hs0 : 0 ≤ n.sg[k].1 := by omega
            have hpl := Lib.hid (rollOk_key HO.out hti)
            by_cases h3 : sigB ks[n.sg[k].1.toNat].1 ks[n.sg[k].1.toNat].2 (digA n.a) n.sg[k].2 = true
            · have H3 := Lib.hid h3
              have HX := Lib.hid (sigs_go (ks := ks) (d := digA n.a) hlt h1 h2 (by rw [sigK_at hti]; exact h3))
              clear h3
              go_wp2_with fail
              refine wp_region_bw2 (by kernel_rfl) (by kernel_rfl) (fun hbwc => ?_)
              repeat (go_big_quiet_step ((go_at_call 97; exact bwCall (signed_is _ _ _ _ true _ H3.out hpl.out HD.out))))
              refine wpQuiet_nil ?_
              clear hbwc
              intro w3 hb
              have Hw3 := Lib.hid (HB.out.trans (Below.trans (by (repeat (first | exact Below.refl _ _ | assumption | refine below_drewN ?_ _ | refine Below.drew ?_ | refine Below.setCell ?_ (by first | omega | (simp; done) | (simp; omega)) _ | refine Below.alloc ?_ (by first | omega | (simp; done) | (simp; omega)) _))) (hb.mono (by simp; omega))))
              have HW3 := Lib.hid (hWB.out.trans (Below.trans (by (repeat (first | exact Below.refl _ _ | assumption | refine below_drewN ?_ _ | refine Below.drew ?_ | refine Below.setCell ?_ (by first | omega | (simp; done) | (simp; omega)) _ | refine Below.alloc ?_ (by first | omega | (simp; done) | (simp; omega)) _))) (hb.mono (by simp; omega))))
              obtain ⟨hcw3, hfw3⟩ := bcell hb
              have hz11 := hb.size
              simp at hz11
              have hz12 : wr.heap.size < w3.heap.size := by omega
              clear hb
              go_wp2_with fail
              go_roundw
              case rel => exact ⟨⟨k + 1, n.sg[k].1, by omega, rfl, by go_num, by omega, by show _ = _; rw [← HX.out, hp.out]⟩, Hw3.out⟩
              case measure => simp [intOf]; omega
            · have h3' : sigB ks[n.sg[k].1.toNat].1 ks[n.sg[k].1.toNat].2 (digA n.a) n.sg[k].2 = false := by simpa using h3
              have H3 := Lib.hid h3'
              have HF := Lib.hid (noticeE_sig (ks := ks) (q := q) HK.out (by rw [← hp.out]; exact sigs_f3 hlt (by rw [sigK_at hti]; exact h3')))
              clear h3 h3'
              go_wp2_with fail
              refine wp_region_bw2 (by kernel_rfl) (by kernel_rfl) (fun hbwc => ?_)
              repeat (go_big_quiet_step ((go_at_call 97; exact bwCall (signed_is _ _ _ _ false _ H3.out hpl.out HD.out))))
              refine wpQuiet_nil ?_
              clear hbwc
              intro w3 hb
              have Hw3 := Lib.hid (HB.out.trans (Below.trans (by (repeat (first | exact Below.refl _ _ | assumption | refine below_drewN ?_ _ | refine Below.drew ?_ | refine Below.setCell ?_ (by first | omega | (simp; done) | (simp; omega)) _ | refine Below.alloc ?_ (by first | omega | (simp; done) | (simp; omega)) _))) (hb.mono (by simp; omega))))
              have HW3 := Lib.hid (hWB.out.trans (Below.trans (by (repeat (first | exact Below.refl _ _ | assumption | refine below_drewN ?_ _ | refine Below.drew ?_ | refine Below.setCell ?_ (by first | omega | (simp; done) | (simp; omega)) _ | refine Below.alloc ?_ (by first | omega | (simp; done) | (simp; omega)) _))) (hb.mono (by simp; omega))))
              obtain ⟨hcw3, hfw3⟩ := bcell hb
              have hz11 := hb.size
              simp at hz11
              have hz12 : wr.heap.size < w3.heap.size := by omega
              clear hb
              go_wp2_with fail
              go_ret
              exact ⟨ret_int (by rw [HF.out]), HW3.out⟩
          · have h2' : decide ((ks.length : Int) ≤ n.sg[k].1) = true := decide_eq_true (by omega)
            have HF := Lib.hid (noticeE_sig (ks := ks) (q := q) HK.out (by rw [← hp.out]; exact sigs_f2 hlt h2))
            have hz7 : w.heap.size + 1 < wr.heap.size := by omega
            have hz8 : w.heap.size < wr.heap.size := by omega
            have hz9 : w.heap.size + 1 < wr.heap.size + 1 := by omega
            have hz10 : w.heap.size < wr.heap.size + 1 := by omega
            go_wp2_with fail
            refine wp_region_bw2 (by kernel_rfl) (by kernel_rfl) (fun hbwc => ?_)
            repeat (go_big_quiet_step (fail))
            refine wpQuiet_nil ?_
            clear hbwc
            intro w3 hb
            have Hw3 := Lib.hid (HB.out.trans (Below.trans (by (repeat (first | exact Below.refl _ _ | assumption | refine below_drewN ?_ _ | refine Below.drew ?_ | refine Below.setCell ?_ (by first | omega | (simp; done) | (simp; omega)) _ | refine Below.alloc ?_ (by first | omega | (simp; done) | (simp; omega)) _))) (hb.mono (by simp; omega))))
            have HW3 := Lib.hid (hWB.out.trans (Below.trans (by (repeat (first | exact Below.refl _ _ | assumption | refine below_drewN ?_ _ | refine Below.drew ?_ | refine Below.setCell ?_ (by first | omega | (simp; done) | (simp; omega)) _ | refine Below.alloc ?_ (by first | omega | (simp; done) | (simp; omega)) _))) (hb.mono (by simp; omega))))
            obtain ⟨hcw3, hfw3⟩ := bcell hb
            have hz11 := hb.size
            simp at hz11
            have hz12 : wr.heap.size < w3.heap.size := by omega
            clear hb
            go_wp2_with fail
            go_ret
            exact ⟨ret_int (by rw [HF.out]), HW3.out⟩
        · have h1' : decide (n.sg[k].1 ≤ last) = true := decide_eq_true (by omega)
          have HF := Lib.hid (noticeE_sig (ks := ks) (q := q) HK.out (by rw [← hp.out]; exact sigs_f1 hlt h1))
          have hz7 : w.heap.size + 1 < wr.heap.size := by omega
          have hz8 : w.heap.size < wr.heap.size := by omega
          have hz9 : w.heap.size + 1 < wr.heap.size + 1 := by omega
          have hz10 : w.heap.size < wr.heap.size + 1 := by omega
          go_wp2_with fail
          refine wp_region_bw2 (by kernel_rfl) (by kernel_rfl) (fun hbwc => ?_)
          repeat (go_big_quiet_step (fail))
          refine wpQuiet_nil ?_
          clear hbwc
          intro w3 hb
          have Hw3 := Lib.hid (HB.out.trans (Below.trans (by (repeat (first | exact Below.refl _ _ | assumption | refine below_drewN ?_ _ | refine Below.drew ?_ | refine Below.setCell ?_ (by first | omega | (simp; done) | (simp; omega)) _ | refine Below.alloc ?_ (by first | omega | (simp; done) | (simp; omega)) _))) (hb.mono (by simp; omega))))
          have HW3 := Lib.hid (hWB.out.trans (Below.trans (by (repeat (first | exact Below.refl _ _ | assumption | refine below_drewN ?_ _ | refine Below.drew ?_ | refine Below.setCell ?_ (by first | omega | (simp; done) | (simp; omega)) _ | refine Below.alloc ?_ (by first | omega | (simp; done) | (simp; omega)) _))) (hb.mono (by simp; omega))))
          obtain ⟨hcw3, hfw3⟩ := bcell hb
          have hz11 := hb.size
          simp at hz11
          have hz12 : wr.heap.size < w3.heap.size := by omega
          clear hb
          go_wp2_with fail
          go_ret
          exact ⟨ret_int (by rw [HF.out]), HW3.out⟩
      · obtain rfl : k = n.sg.length := by omega
        have HE : Hid (sigsOk ks (digA n.a) (-1) n.sg = true) := by
          show _ = _
          rw [← hp.out, sigsOk_end]
        by_cases h3 : (n.sg.length : Int) < q
        · have HF := Lib.hid (noticeE_few (ks := ks) HK.out HE.out h3)
          go_wp2_with fail
          go_ret
          exact ⟨ret_int (by rw [HF.out]), hWB.out⟩
        · have HF := Lib.hid (noticeE_ok (ks := ks) HK.out HE.out h3)
          go_wp2_with fail
          go_ret
          exact ⟨ret_int (by rw [HF.out]), hWB.out⟩
  · have hk' : okA n.a = false := by simpa using hk
    have HK := Lib.hid hk'
    have HF := Lib.hid (noticeE_bad (ks := ks) (q := q) hk')
    clear hk hk'
    go_enter Tryz.func58, Tryz.ntmps58
    go_wp2_with fail
    refine (validA_is n.a A c _ false HK.out (HN.out.al.below (by (repeat (first | exact Below.refl _ _ | assumption | refine below_drewN ?_ _ | refine Below.drew ?_ | refine Below.setCell ?_ (by first | omega | (simp; done) | (simp; omega)) _ | refine Below.alloc ?_ (by first | omega | (simp; done) | (simp; omega)) _))))).mono ?_
    rintro e w1 ⟨rfl, hb⟩
    obtain ⟨hcw1, hfw1⟩ := bcell hb
    have Hw1 := Lib.hid ((show Below w.heap.size w _ from (by repeat (first | exact Below.refl _ _ | assumption | refine below_drewN ?_ _ | refine Below.drew ?_ | refine Below.setCell ?_ (by first | omega | (simp; done) | (simp; omega)) _ | refine Below.alloc ?_ (by first | omega | (simp; done) | (simp; omega)) _))).trans (hb.mono (by first | omega | (simp; done) | (simp; omega))))
    have hzw1 := hb.size
    try simp at hzw1
    clear hb
    go_wp2_with fail
    go_ret
    exact ⟨ret_int (by rw [HF.out]), Hw1.out⟩
end Go.Proofs.YtohfofecbdfkgaaGreatDoor
