/-
  The walks of the functions that ask whether a notice is valid.
-/
import Derived.Test.YtmpbhngjkbidcaaGreatDoorW11
import Derived.Test.YtmpbhngjkbidcaaGreatDoorW08
import Derived.Maps.AppendAt
import Derived.OwnWalk
namespace Go.Proofs.YtmpbhngjkbidcaaGreatDoor
open Go.RowKit Al

/-- A notice: an alert and its signatures (signer, number). -/
structure Ntc where
  a : Alr
  sg : List (Int × Int)
@[reducible] def Ntc.val (n : Ntc) (A : Option Addr) (c : Nat) (S : Option Addr) (sc : Nat) : Value :=
  .agg #[.string n.a.ev, .int .i64 n.a.ver, .int .i64 n.a.tm, .int .i64 n.a.n, .int .i64 n.a.of, .int .i64 n.a.grid, .slice A n.a.cells.length c, .bool n.a.wd, .int .i64 n.a.before, .slice S n.sg.length sc]
/-- A notice lies in the world. -/
structure NIn (w : World) (n : Ntc) (A : Option Addr) (c : Nat) (S : Option Addr) (sc : Nat) : Prop where
  al : AIn w n.a A c
  sl : Sl w w.heap.size 2 S n.sg.length sc (keyCells n.sg)
theorem NIn.below {w w' : World} {n : Ntc} {A : Option Addr} {c : Nat} {S : Option Addr} {sc : Nat} (h : NIn w n A c S sc) (hb : Below w.heap.size w w') : NIn w' n A c S sc :=
  ⟨h.al.below hb, (h.sl.below hb).more hb.size⟩

/-- Is a signature one of these keys for this digest? -/
def sigK (ks : List (Int × Int)) (d : Int) (s : Int × Int) : Bool := match ks[s.1.toNat]? with
  | some k => sigB k.1 k.2 d s.2
  | none => false
/-- Are the signatures, behind a signer, in order and right? -/
def sigsOk (ks : List (Int × Int)) (d : Int) : Int → List (Int × Int) → Bool
  | _, [] => true
  | last, s :: l => decide (last < s.1) && (decide (s.1 < ks.length) && (sigK ks d s && sigsOk ks d s.1 l))
/-- The error of a notice, for a valid roll. -/
def noticeE (ks : List (Int × Int)) (q : Int) (n : Ntc) : Int :=
  if okA n.a then (if sigsOk ks (digA n.a) (-1) n.sg then (if (n.sg.length : Int) < q then 103 else 0) else 102) else 101
theorem noticeE_bad {ks : List (Int × Int)} {q : Int} {n : Ntc} (h : okA n.a = false) : noticeE ks q n = 101 := by unfold noticeE; rw [h]; rfl
theorem noticeE_sig {ks : List (Int × Int)} {q : Int} {n : Ntc} (h : okA n.a = true) (h2 : sigsOk ks (digA n.a) (-1) n.sg = false) : noticeE ks q n = 102 := by unfold noticeE; rw [h, h2]; rfl
theorem noticeE_few {ks : List (Int × Int)} {q : Int} {n : Ntc} (h : okA n.a = true) (h2 : sigsOk ks (digA n.a) (-1) n.sg = true) (h3 : (n.sg.length : Int) < q) : noticeE ks q n = 103 := by unfold noticeE; rw [h, h2, if_pos h3]; rfl
theorem noticeE_ok {ks : List (Int × Int)} {q : Int} {n : Ntc} (h : okA n.a = true) (h2 : sigsOk ks (digA n.a) (-1) n.sg = true) (h3 : ¬ (n.sg.length : Int) < q) : noticeE ks q n = 0 := by unfold noticeE; rw [h, h2, if_neg h3]; rfl

theorem sigsOk_at {ks sg : List (Int × Int)} {d last : Int} {k : Nat} (h : k < sg.length) : sigsOk ks d last (sg.drop k) = (decide (last < sg[k].1) && (decide (sg[k].1 < ks.length) && (sigK ks d sg[k] && sigsOk ks d sg[k].1 (sg.drop (k + 1))))) := by
  rw [List.drop_eq_getElem_cons h]; rfl
theorem sigK_at {ks : List (Int × Int)} {d : Int} {s : Int × Int} (h : s.1.toNat < ks.length) : sigK ks d s = sigB ks[s.1.toNat].1 ks[s.1.toNat].2 d s.2 := by
  unfold sigK; rw [List.getElem?_eq_getElem h]
theorem sigsOk_end {ks sg : List (Int × Int)} {d last : Int} : sigsOk ks d last (sg.drop sg.length) = true := by rw [List.drop_of_length_le (Nat.le_refl _)]; rfl
theorem keysUp_at {ks : List (Int × Int)} {n i : Nat} (h : keysUp ks n = true) (hi : i < n) (hl : i < ks.length) : plaus ks[i].1 ks[i].2 = true := by
  by_cases h1 : keyOk ks i = true
  · rw [keyOk_at hl, Bool.and_eq_true] at h1; exact h1.1
  · rw [keysUp_false (by simpa using h1) hi] at h; cases h
theorem rollOk_key {ks : List (Int × Int)} {q : Int} (h : rollOk ks q = true) {i : Nat} (hi : i < ks.length) : plaus ks[i].1 ks[i].2 = true := by
  unfold rollOk at h; rw [Bool.and_eq_true] at h; exact keysUp_at h.1 hi hi

theorem sigs_go {ks sg : List (Int × Int)} {d last : Int} {k : Nat} (h : k < sg.length) (h1 : last < sg[k].1) (h2 : sg[k].1 < ks.length) (h3 : sigK ks d sg[k] = true) : sigsOk ks d last (sg.drop k) = sigsOk ks d sg[k].1 (sg.drop (k + 1)) := by
  rw [sigsOk_at h, decide_eq_true h1, decide_eq_true h2, h3]; rfl
theorem sigs_f1 {ks sg : List (Int × Int)} {d last : Int} {k : Nat} (h : k < sg.length) (h1 : ¬ last < sg[k].1) : sigsOk ks d last (sg.drop k) = false := by
  rw [sigsOk_at h, decide_eq_false h1]; rfl
theorem sigs_f2 {ks sg : List (Int × Int)} {d last : Int} {k : Nat} (h : k < sg.length) (h2 : ¬ sg[k].1 < ks.length) : sigsOk ks d last (sg.drop k) = false := by
  rw [sigsOk_at h, decide_eq_false h2, Bool.false_and, Bool.and_false]
theorem sigs_f3 {ks sg : List (Int × Int)} {d last : Int} {k : Nat} (h : k < sg.length) (h3 : sigK ks d sg[k] = false) : sigsOk ks d last (sg.drop k) = false := by
  rw [sigsOk_at h, h3, Bool.false_and, Bool.and_false, Bool.and_false]
theorem signed_is (m x d num : Int) (b : Bool) (w : World) (hs : sigB m x d num = b) (h1 : plaus m x = true) (hd : 0 ≤ d ∧ d ≤ 2147483646) :
    Calls Tryz.prog 85 #[.agg #[.int .i64 m, .int .i64 x], .int .i64 d, .int .i64 num] w fun e w' => e = .returned (.bool b) ∧ Below w.heap.size w w' := hs ▸ signed_ m x d num w h1 hd

def NoRel (ks : List (Int × Int)) (n : Ntc) (l i : Value) : Prop := ∃ (k : Nat) (last : Int), k ≤ n.sg.length ∧ l = .int .i64 last ∧ i = .int .i64 k ∧ -1 ≤ last ∧ Hid (sigsOk ks (digA n.a) last (n.sg.drop k) = sigsOk ks (digA n.a) (-1) n.sg)

set_option maxRecDepth 100000 in
set_option maxHeartbeats 2000000 in
theorem rollCheck_ (ks : List (Int × Int)) (q : Int) (K : Option Addr) (kc : Nat) (n : Ntc) (A : Option Addr) (c : Nat) (S : Option Addr) (sc : Nat) (w : World) (hr : Rin w ks K kc) (ho : rollOk ks q = true) (hn : NIn w n A c S sc) (ht : Rdy w) :
    Calls Tryz.prog 49 #[rollV ks K kc q, n.val A c S sc] w fun e w' => e = .returned (.int .i64 (noticeE ks q n)) ∧ Below w.heap.size w w' := by
  have hl1 : ks.length ≤ maxLen := Nat.le_trans hr.cap hr.max
  have hl2 : n.sg.length ≤ maxLen := Nat.le_trans hn.sl.cap hn.sl.max
  unfold maxLen at hl1 hl2
  have HR := Lib.hid hr
  have HN := Lib.hid hn
  have HT := Lib.hid ht
  have HO := Lib.hid ho
  clear hr hn ht ho
  by_cases hk : okA n.a = true
  · have HK := Lib.hid hk
    have HD := Lib.hid (digL_in (textL n.a))
    clear hk
    go_enter Tryz.func49, Tryz.ntmps49
    go_wp2_with fail
    refine (validA_is n.a A c _ true HK.out (HN.out.al.below (by (repeat (first | exact Below.refl _ _ | assumption | refine below_drewN ?_ _ | refine Below.drew ?_ | refine Below.setCell ?_ (by first | omega | (simp; done) | (simp; omega)) _ | refine Below.alloc ?_ (by first | omega | (simp; done) | (simp; omega)) _))))).mono ?_
    rintro e w1 ⟨rfl, hb⟩
    obtain ⟨hcw1, hfw1⟩ := bcell hb
    have Hw1 := Lib.hid ((show Below w.heap.size w _ from (by repeat (first | exact Below.refl _ _ | assumption | refine below_drewN ?_ _ | refine Below.drew ?_ | refine Below.setCell ?_ (by first | omega | (simp; done) | (simp; omega)) _ | refine Below.alloc ?_ (by first | omega | (simp; done) | (simp; omega)) _))).trans (hb.mono (by first | omega | (simp; done) | (simp; omega))))
    have hzw1 := hb.size
    try simp at hzw1
    clear hb
    go_wp2_with fail
    refine (digestA n.a A c _ HK.out (HN.out.al.below Hw1.out) (HT.out.below Hw1.out)).mono ?_
    rintro e w2 ⟨rfl, hb⟩
    obtain ⟨hcw2, hfw2⟩ := bcell hb
    have Hw2 := Lib.hid ((show Below w.heap.size w _ from (by repeat (first | exact Below.refl _ _ | exact (Hw1).out | refine below_drewN ?_ _ | refine Below.drew ?_ | refine Below.setCell ?_ (by first | omega | (simp; done) | (simp; omega)) _ | refine Below.alloc ?_ (by first | omega | (simp; done) | (simp; omega)) _))).trans (hb.mono (by first | omega | (simp; done) | (simp; omega))))
    have hzw2 := hb.size
    try simp at hzw2
    clear hb
    have hz3 : w.heap.size + 1 < w1.heap.size := by omega
    have hz4 : w.heap.size < w1.heap.size := by omega
    have hz5 : w.heap.size + 1 < w2.heap.size := by omega
    have hz6 : w.heap.size < w2.heap.size := by omega
    go_wp2_with fail
    go_loopw [6, 19] (fun l i wr => NoRel ks n l i ∧ Below w2.heap.size w2 wr) (fun _ i _ => n.sg.length - (intOf i).toNat)
    case atStart => exact ⟨⟨0, -1, Nat.zero_le _, rfl, rfl, by omega, rfl⟩, (by repeat (first | exact Below.refl _ _ | assumption | refine below_drewN ?_ _ | refine Below.drew ?_ | refine Below.setCell ?_ (by first | omega | (simp; done) | (simp; omega)) _ | refine Below.alloc ?_ (by first | omega | (simp; done) | (simp; omega)) _))⟩
    case round =>
      obtain ⟨⟨k, last, hkl, rfl, rfl, hla, hp⟩, hbw⟩ := hrel
      obtain ⟨hcw, hfw⟩ := bcell hbw
      have HB := Lib.hid hbw
      have hz := hbw.size
      have hWB := Lib.hid (Hw2.out.trans (hbw.mono Hw2.out.size))
      clear hbw
      by_cases hlt : k < n.sg.length
      · obtain ⟨sb, so, rfl, hsb, hs1, hs2⟩ := (HN.out.below hWB.out).sl.key_at hlt
        have hlt' : (k : Int) < (n.sg.length : Int) := by omega
        have hsb1 : sb < wr.heap.size + 1 := by omega
        by_cases h1 : last < n.sg[k].1
        · have h1' : decide (n.sg[k].1 ≤ last) = false := decide_eq_false (by omega)
          by_cases h2 : n.sg[k].1 < ks.length
          · have h2' : decide ((ks.length : Int) ≤ n.sg[k].1) = false := decide_eq_false (by omega)
            have hti : n.sg[k].1.toNat < ks.length := by omega
            have htz : ((n.sg[k].1.toNat : Nat) : Int) = n.sg[k].1 := by omega
            obtain ⟨kb, ko, rfl, hkb, hk1, hk2⟩ := (HR.out.below hWB.out).key_at hti
            have hkb1 : kb < wr.heap.size + 1 := by omega
            have hz7 : w.heap.size + 1 < wr.heap.size := by omega
            have hz8 : w.heap.size < wr.heap.size := by omega
            have hz9 : w.heap.size + 1 < wr.heap.size + 1 := by omega
            have hz10 : w.heap.size < wr.heap.size + 1 := by omega
            have hs0 : 0 ≤ n.sg[k].1 := by omega
            have hpl := Lib.hid (rollOk_key HO.out hti)
            by_cases h3 : sigB ks[n.sg[k].1.toNat].1 ks[n.sg[k].1.toNat].2 (digA n.a) n.sg[k].2 = true
            · have H3 := Lib.hid h3
              have HX := Lib.hid (sigs_go (ks := ks) (d := digA n.a) hlt h1 h2 (by rw [sigK_at hti]; exact h3))
              clear h3
              go_wp2_with fail
              refine wp_region_bw2 (by kernel_rfl) (by kernel_rfl) (fun hbwc => ?_)
              repeat (go_big_quiet_step ((go_at_call 85; exact bwCall (signed_is _ _ _ _ true _ H3.out hpl.out HD.out))))
              refine wpQuiet_nil ?_
              clear hbwc
              intro w3 hb
              have Hw3 := Lib.hid (HB.out.trans (Below.trans (by (repeat (first | exact Below.refl _ _ | assumption | refine below_drewN ?_ _ | refine Below.drew ?_ | refine Below.setCell ?_ (by first | omega | (simp; done) | (simp; omega)) _ | refine Below.alloc ?_ (by first | omega | (simp; done) | (simp; omega)) _))) (hb.mono (by simp; omega))))
              have HW3 := Lib.hid (hWB.out.trans (Below.trans (by (repeat (first | exact Below.refl _ _ | assumption | refine below_drewN ?_ _ | refine Below.drew ?_ | refine Below.setCell ?_ (by first | omega | (simp; done) | (simp; omega)) _ | refine Below.alloc ?_ (by first | omega | (simp; done) | (simp; omega)) _))) (hb.mono (by simp; omega))))
              obtain ⟨hcw3, hfw3⟩ := bcell hb
              have hz11 := hb.size
              simp at hz11
              have hz12 : wr.heap.size < w3.heap.size := by omega
              clear hb
              go_wp2_with fail
              go_roundw
              case rel => exact ⟨⟨k + 1, n.sg[k].1, by omega, rfl, by go_num, by omega, by show _ = _; rw [← HX.out, hp.out]⟩, Hw3.out⟩
              case measure => simp [intOf]; omega
            · have h3' : sigB ks[n.sg[k].1.toNat].1 ks[n.sg[k].1.toNat].2 (digA n.a) n.sg[k].2 = false := by simpa using h3
              have H3 := Lib.hid h3'
              have HF := Lib.hid (noticeE_sig (ks := ks) (q := q) HK.out (by rw [← hp.out]; exact sigs_f3 hlt (by rw [sigK_at hti]; exact h3')))
              clear h3 h3'
              go_wp2_with fail
              refine wp_region_bw2 (by kernel_rfl) (by kernel_rfl) (fun hbwc => ?_)
              repeat (go_big_quiet_step ((go_at_call 85; exact bwCall (signed_is _ _ _ _ false _ H3.out hpl.out HD.out))))
              refine wpQuiet_nil ?_
              clear hbwc
              intro w3 hb
              have Hw3 := Lib.hid (HB.out.trans (Below.trans (by (repeat (first | exact Below.refl _ _ | assumption | refine below_drewN ?_ _ | refine Below.drew ?_ | refine Below.setCell ?_ (by first | omega | (simp; done) | (simp; omega)) _ | refine Below.alloc ?_ (by first | omega | (simp; done) | (simp; omega)) _))) (hb.mono (by simp; omega))))
              have HW3 := Lib.hid (hWB.out.trans (Below.trans (by (repeat (first | exact Below.refl _ _ | assumption | refine below_drewN ?_ _ | refine Below.drew ?_ | refine Below.setCell ?_ (by first | omega | (simp; done) | (simp; omega)) _ | refine Below.alloc ?_ (by first | omega | (simp; done) | (simp; omega)) _))) (hb.mono (by simp; omega))))
              obtain ⟨hcw3, hfw3⟩ := bcell hb
              have hz11 := hb.size
              simp at hz11
              have hz12 : wr.heap.size < w3.heap.size := by omega
              clear hb
              go_wp2_with fail
              go_ret
              exact ⟨ret_int (by rw [HF.out]), HW3.out⟩
          · have h2' : decide ((ks.length : Int) ≤ n.sg[k].1) = true := decide_eq_true (by omega)
            have HF := Lib.hid (noticeE_sig (ks := ks) (q := q) HK.out (by rw [← hp.out]; exact sigs_f2 hlt h2))
            have hz7 : w.heap.size + 1 < wr.heap.size := by omega
            have hz8 : w.heap.size < wr.heap.size := by omega
            have hz9 : w.heap.size + 1 < wr.heap.size + 1 := by omega
            have hz10 : w.heap.size < wr.heap.size + 1 := by omega
            go_wp2_with fail
            refine wp_region_bw2 (by kernel_rfl) (by kernel_rfl) (fun hbwc => ?_)
            repeat (go_big_quiet_step (fail))
            refine wpQuiet_nil ?_
            clear hbwc
            intro w3 hb
            have Hw3 := Lib.hid (HB.out.trans (Below.trans (by (repeat (first | exact Below.refl _ _ | assumption | refine below_drewN ?_ _ | refine Below.drew ?_ | refine Below.setCell ?_ (by first | omega | (simp; done) | (simp; omega)) _ | refine Below.alloc ?_ (by first | omega | (simp; done) | (simp; omega)) _))) (hb.mono (by simp; omega))))
            have HW3 := Lib.hid (hWB.out.trans (Below.trans (by (repeat (first | exact Below.refl _ _ | assumption | refine below_drewN ?_ _ | refine Below.drew ?_ | refine Below.setCell ?_ (by first | omega | (simp; done) | (simp; omega)) _ | refine Below.alloc ?_ (by first | omega | (simp; done) | (simp; omega)) _))) (hb.mono (by simp; omega))))
            obtain ⟨hcw3, hfw3⟩ := bcell hb
            have hz11 := hb.size
            simp at hz11
            have hz12 : wr.heap.size < w3.heap.size := by omega
            clear hb
            go_wp2_with fail
            go_ret
            exact ⟨ret_int (by rw [HF.out]), HW3.out⟩
        · have h1' : decide (n.sg[k].1 ≤ last) = true := decide_eq_true (by omega)
          have HF := Lib.hid (noticeE_sig (ks := ks) (q := q) HK.out (by rw [← hp.out]; exact sigs_f1 hlt h1))
          have hz7 : w.heap.size + 1 < wr.heap.size := by omega
          have hz8 : w.heap.size < wr.heap.size := by omega
          have hz9 : w.heap.size + 1 < wr.heap.size + 1 := by omega
          have hz10 : w.heap.size < wr.heap.size + 1 := by omega
          go_wp2_with fail
          refine wp_region_bw2 (by kernel_rfl) (by kernel_rfl) (fun hbwc => ?_)
          repeat (go_big_quiet_step (fail))
          refine wpQuiet_nil ?_
          clear hbwc
          intro w3 hb
          have Hw3 := Lib.hid (HB.out.trans (Below.trans (by (repeat (first | exact Below.refl _ _ | assumption | refine below_drewN ?_ _ | refine Below.drew ?_ | refine Below.setCell ?_ (by first | omega | (simp; done) | (simp; omega)) _ | refine Below.alloc ?_ (by first | omega | (simp; done) | (simp; omega)) _))) (hb.mono (by simp; omega))))
          have HW3 := Lib.hid (hWB.out.trans (Below.trans (by (repeat (first | exact Below.refl _ _ | assumption | refine below_drewN ?_ _ | refine Below.drew ?_ | refine Below.setCell ?_ (by first | omega | (simp; done) | (simp; omega)) _ | refine Below.alloc ?_ (by first | omega | (simp; done) | (simp; omega)) _))) (hb.mono (by simp; omega))))
          obtain ⟨hcw3, hfw3⟩ := bcell hb
          have hz11 := hb.size
          simp at hz11
          have hz12 : wr.heap.size < w3.heap.size := by omega
          clear hb
          go_wp2_with fail
          go_ret
          exact ⟨ret_int (by rw [HF.out]), HW3.out⟩
      · obtain rfl : k = n.sg.length := by omega
        have HE : Hid (sigsOk ks (digA n.a) (-1) n.sg = true) := by
          show _ = _
          rw [← hp.out, sigsOk_end]
        by_cases h3 : (n.sg.length : Int) < q
        · have HF := Lib.hid (noticeE_few (ks := ks) HK.out HE.out h3)
          go_wp2_with fail
          go_ret
          exact ⟨ret_int (by rw [HF.out]), hWB.out⟩
        · have HF := Lib.hid (noticeE_ok (ks := ks) HK.out HE.out h3)
          go_wp2_with fail
          go_ret
          exact ⟨ret_int (by rw [HF.out]), hWB.out⟩
  · have hk' : okA n.a = false := by simpa using hk
    have HK := Lib.hid hk'
    have HF := Lib.hid (noticeE_bad (ks := ks) (q := q) hk')
    clear hk hk'
    go_enter Tryz.func49, Tryz.ntmps49
    go_wp2_with fail
    refine (validA_is n.a A c _ false HK.out (HN.out.al.below (by (repeat (first | exact Below.refl _ _ | assumption | refine below_drewN ?_ _ | refine Below.drew ?_ | refine Below.setCell ?_ (by first | omega | (simp; done) | (simp; omega)) _ | refine Below.alloc ?_ (by first | omega | (simp; done) | (simp; omega)) _))))).mono ?_
    rintro e w1 ⟨rfl, hb⟩
    obtain ⟨hcw1, hfw1⟩ := bcell hb
    have Hw1 := Lib.hid ((show Below w.heap.size w _ from (by repeat (first | exact Below.refl _ _ | assumption | refine below_drewN ?_ _ | refine Below.drew ?_ | refine Below.setCell ?_ (by first | omega | (simp; done) | (simp; omega)) _ | refine Below.alloc ?_ (by first | omega | (simp; done) | (simp; omega)) _))).trans (hb.mono (by first | omega | (simp; done) | (simp; omega))))
    have hzw1 := hb.size
    try simp at hzw1
    clear hb
    go_wp2_with fail
    go_ret
    exact ⟨ret_int (by rw [HF.out]), Hw1.out⟩
end Go.Proofs.YtmpbhngjkbidcaaGreatDoor

/-
  The walks of CheckRoll and CheckNotice, of the program.
-/
namespace Go.Proofs.YtmpbhngjkbidcaaGreatDoor
open Go.RowKit Al

theorem rollValid_is (ks : List (Int × Int)) (q : Int) (A : Option Addr) (c : Nat) (w : World) (b : Bool) (hb : rollOk ks q = b) (h : Rin w ks A c) :
    Calls Tryz.prog 73 #[rollV ks A c q] w fun e w' => e = .returned (.bool b) ∧ Below w.heap.size w w' := hb ▸ rollValid_ ks q A c w h

set_option maxRecDepth 100000 in
theorem CheckRoll_ (ks : List (Int × Int)) (q : Int) (A : Option Addr) (c : Nat) (w : World) (h : Rin w ks A c) :
    Calls Tryz.prog 35 #[rollV ks A c q] w fun e w' => e = .returned (.int .i64 (errA (rollOk ks q) 104)) ∧ Below w.heap.size w w' := by
  have HR := Lib.hid h
  clear h
  by_cases ho : rollOk ks q = true
  · have HO := Lib.hid ho
    clear ho
    go_enter Tryz.func35, Tryz.ntmps35
    go_wp2_with fail
    refine (rollValid_is ks q A c _ true HO.out (HR.out.below (by (repeat (first | exact Below.refl _ _ | assumption | refine below_drewN ?_ _ | refine Below.drew ?_ | refine Below.setCell ?_ (by first | omega | (simp; done) | (simp; omega)) _ | refine Below.alloc ?_ (by first | omega | (simp; done) | (simp; omega)) _))))).mono ?_
    rintro e w1 ⟨rfl, hb⟩
    obtain ⟨hcw1, hfw1⟩ := bcell hb
    have Hw1 := Lib.hid ((show Below w.heap.size w _ from (by repeat (first | exact Below.refl _ _ | assumption | refine below_drewN ?_ _ | refine Below.drew ?_ | refine Below.setCell ?_ (by first | omega | (simp; done) | (simp; omega)) _ | refine Below.alloc ?_ (by first | omega | (simp; done) | (simp; omega)) _))).trans (hb.mono (by first | omega | (simp; done) | (simp; omega))))
    have hzw1 := hb.size
    try simp at hzw1
    clear hb
    go_wp2_with fail
    go_ret
    exact ⟨ret_int (errA_t HO.out).symm, Hw1.out⟩
  · have ho' : rollOk ks q = false := by simpa using ho
    have HO := Lib.hid ho'
    clear ho ho'
    go_enter Tryz.func35, Tryz.ntmps35
    go_wp2_with fail
    refine (rollValid_is ks q A c _ false HO.out (HR.out.below (by (repeat (first | exact Below.refl _ _ | assumption | refine below_drewN ?_ _ | refine Below.drew ?_ | refine Below.setCell ?_ (by first | omega | (simp; done) | (simp; omega)) _ | refine Below.alloc ?_ (by first | omega | (simp; done) | (simp; omega)) _))))).mono ?_
    rintro e w1 ⟨rfl, hb⟩
    obtain ⟨hcw1, hfw1⟩ := bcell hb
    have Hw1 := Lib.hid ((show Below w.heap.size w _ from (by repeat (first | exact Below.refl _ _ | assumption | refine below_drewN ?_ _ | refine Below.drew ?_ | refine Below.setCell ?_ (by first | omega | (simp; done) | (simp; omega)) _ | refine Below.alloc ?_ (by first | omega | (simp; done) | (simp; omega)) _))).trans (hb.mono (by first | omega | (simp; done) | (simp; omega))))
    have hzw1 := hb.size
    try simp at hzw1
    clear hb
    go_wp2_with fail
    go_ret
    exact ⟨ret_int (errA_f HO.out).symm, Hw1.out⟩
theorem CheckRoll_is (ks : List (Int × Int)) (q : Int) (A : Option Addr) (c : Nat) (w : World) (v : Int) (hv : errA (rollOk ks q) 104 = v) (h : Rin w ks A c) :
    Calls Tryz.prog 35 #[rollV ks A c q] w fun e w' => e = .returned (.int .i64 v) ∧ Below w.heap.size w w' := hv ▸ CheckRoll_ ks q A c w h

/-- What CheckNotice gives. -/
def checkE (ks : List (Int × Int)) (q : Int) (n : Ntc) : Int := if rollOk ks q then noticeE ks q n else 104
theorem checkE_t {ks : List (Int × Int)} {q : Int} {n : Ntc} (h : rollOk ks q = true) : checkE ks q n = noticeE ks q n := by unfold checkE; rw [h]; rfl
theorem checkE_f {ks : List (Int × Int)} {q : Int} {n : Ntc} (h : rollOk ks q = false) : checkE ks q n = 104 := by unfold checkE; rw [h]; rfl

end Go.Proofs.YtmpbhngjkbidcaaGreatDoor

/-
  The walk of the specification's CheckRoll.
-/
namespace Go.Proofs.YtmpbhngjkbidcaaGreatDoor
open Go.RowKit Al

/-- What CheckRoll asks of the numbers alone. -/
def preR (ks : List (Int × Int)) (q : Int) : Bool := inB ks.length 1 8 && inB q 1 ks.length
def crB (ks : List (Int × Int)) (q : Int) (k j : Nat) : Bool := (preR ks q && keysUp ks k) && (match ks[k]? with | some x => plaus x.1 x.2 && !modIn x.1 (ks.take j) | none => true)
theorem crB_at {ks : List (Int × Int)} {q : Int} {k j : Nat} (h : k < ks.length) : crB ks q k j = ((preR ks q && keysUp ks k) && (plaus ks[k].1 ks[k].2 && !modIn ks[k].1 (ks.take j))) := by
  unfold crB; rw [List.getElem?_eq_getElem h]
def CrRel (ks : List (Int × Int)) (q : Int) (s i : Value) : Prop := ∃ (k : Nat) (b : Bool), k ≤ ks.length ∧ s = .bool b ∧ i = .int .i64 k ∧ Hid (b = (preR ks q && keysUp ks k))
def CrIn (ks : List (Int × Int)) (q : Int) (k : Nat) (s i : Value) : Prop := ∃ (j : Nat) (b : Bool), j ≤ k ∧ s = .bool b ∧ i = .int .i64 j ∧ Hid (b = crB ks q k j)
theorem cr_zero {ks : List (Int × Int)} {q : Int} {k : Nat} {b : Bool} (h : k < ks.length) (hb : b = (preR ks q && keysUp ks k)) : (b && plaus ks[k].1 ks[k].2) = crB ks q k 0 := by
  rw [crB_at h, hb, List.take_zero]
  unfold modIn
  simp
theorem cr_hit {ks : List (Int × Int)} {q : Int} {k j : Nat} {b : Bool} (h : j < ks.length) {hk : k < ks.length} (hm : (ks[j].1 == ks[k].1) = true) (_hb : b = crB ks q k j) : crB ks q k (j + 1) = false := by
  rw [crB_at hk, modIn_snoc h, hm]; simp
theorem cr_miss {ks : List (Int × Int)} {q : Int} {k j : Nat} {b : Bool} (h : j < ks.length) {hk : k < ks.length} (hm : (ks[j].1 == ks[k].1) = false) (hb : b = crB ks q k j) : crB ks q k (j + 1) = b := by
  rw [hb, crB_at hk, crB_at hk, modIn_snoc h, hm, Bool.or_false]
theorem cr_no {ks : List (Int × Int)} {q : Int} {k j : Nat} (h : j < ks.length) (hb : false = crB ks q k j) : crB ks q k (j + 1) = false := by
  by_cases hk : k < ks.length
  · have := hb.symm
    rw [crB_at hk] at this ⊢
    rw [modIn_snoc h]
    revert this
    generalize preR ks q = a
    generalize keysUp ks k = b
    generalize plaus ks[k].1 ks[k].2 = d
    generalize modIn ks[k].1 (ks.take j) = f
    generalize (ks[j].1 == ks[k].1) = g
    revert a b d f g
    decide
  · rw [hb]
    unfold crB
    rw [List.getElem?_eq_none (by omega)]
theorem cr_end {ks : List (Int × Int)} {q : Int} {k : Nat} {b : Bool} (h : k < ks.length) (hb : b = crB ks q k k) : b = (preR ks q && keysUp ks (k + 1)) := by
  rw [hb, crB_at h, keysUp, keyOk_at h, Bool.and_assoc]
theorem cr_all {ks : List (Int × Int)} {q : Int} {b : Bool} (hb : b = (preR ks q && keysUp ks ks.length)) : rollOk ks q = b := by
  rw [hb, Bool.and_comm]; rfl

end Go.Proofs.YtmpbhngjkbidcaaGreatDoor

/-
  The walks of the specification's notice and CheckNotice.
-/
namespace Go.Proofs.YtmpbhngjkbidcaaGreatDoor
open Go.RowKit Al

/-- The signer ahead of the k-th. -/
def prevS (sg : List (Int × Int)) : Nat → Int
  | 0 => -1
  | k + 1 => match sg[k]? with | some s => s.1 | none => -1
theorem prevS_at {sg : List (Int × Int)} {k : Nat} (h : k < sg.length) : prevS sg (k + 1) = sg[k].1 := by
  show (match sg[k]? with | some s => s.1 | none => (-1 : Int)) = _
  rw [List.getElem?_eq_getElem h]
theorem prevS_pos {sg : List (Int × Int)} {k : Nat} (h : ¬ k = 0) (h2 : k - 1 < sg.length) : prevS sg k = sg[k - 1].1 := by
  obtain ⟨j, rfl⟩ : ∃ j, k = j + 1 := ⟨k - 1, by omega⟩
  exact prevS_at (by simpa using h2)
theorem sigs_out {ks sg : List (Int × Int)} {d last : Int} {k : Nat} (h : k < sg.length) (hl : -1 ≤ last) (hi : inB sg[k].1 0 ((ks.length : Int) - 1) = false) : sigsOk ks d last (sg.drop k) = false := by
  have := inB_false.1 hi
  by_cases h1 : last < sg[k].1
  · exact sigs_f2 h (by omega)
  · exact sigs_f1 h h1
def NrRel (ks : List (Int × Int)) (n : Ntc) (i : Value) : Prop := ∃ k : Nat, k ≤ n.sg.length ∧ i = .int .i64 k ∧ -1 ≤ prevS n.sg k ∧ (0 < k → 0 ≤ prevS n.sg k) ∧ Hid (sigsOk ks (digA n.a) (prevS n.sg k) (n.sg.drop k) = sigsOk ks (digA n.a) (-1) n.sg)

end Go.Proofs.YtmpbhngjkbidcaaGreatDoor

/-
  Slices of the call's own memory: append onto such a row of a slice that reads as cells; OwnInts; slices.Clone.
-/
namespace Go.Proofs.YtmpbhngjkbidcaaGreatDoor
open Go.RowKit Al

theorem run_append_sl {P : Program} (w : World) (base : Nat) (t ty e : TypeId) (i : TypeInfo) (z : Value) (size bytes : Nat) (ht : P.underlying t = some (.slice e)) (hi : P.info? e = some i) (hz : i.zero = some z)
    (hsize : i.size = size) (hby : i.bytes = bytes) (hzs : z.cells.size = size) (hsz : 0 < size)
    (v : Value) (n : Nat) (xs : List Value) (hown : w.ownsRow base e size v n xs) (B : Nat) (A : Option Addr) (m c : Nat) (news : List Value) (hs : Sl w B size A m c news)
    (h1 : ∀ u ∈ news, u.oneCell' = true) (h63 : n + m ≤ maxLen) (hbytes : (n + m) * bytes ≤ 140737488355328) (hbase : base ≤ w.heap.size) :
    ∃ v' w', (Builtin.append_ #[t, t] ty #[v, .slice A m c]).run P w = .ok v' w' ∧ w'.ownsRow base e size v' (n + m) (xs ++ news) ∧ w.grownBy w' v.ownBlock ∧ (v'.ownBlock = v.ownBlock ∨ v'.ownBlock = some w.heap.size) := by
  cases A with
  | none =>
    have hc := hs.nil_ rfl
    subst hc
    have hm : m = 0 := by have := hs.cap; omega
    subst hm
    have hn : news = [] := List.eq_nil_of_length_eq_zero (by have := hs.len; omega)
    subst hn
    exact ⟨v, w, run_append_owned_none w base t ty e i size ht hi v n xs hown, by simpa using hown, World.grownBy.refl w _, .inl rfl⟩
  | some ad =>
    have hcells : ∀ j u, news[j]? = some u → w.cell? (ad.add j) = some u := by
      intro j u hu
      have hm : 0 < m := by
        rcases Nat.eq_zero_or_pos m with h0 | h0
        · subst h0
          have : news = [] := List.eq_nil_of_length_eq_zero (by have := hs.len; omega)
          subst this
          cases hu
        · exact h0
      obtain ⟨b, off, he, _, hc⟩ := hs.at_ hm
      cases he
      have ha : (⟨b, off, none⟩ : Addr).add j = ⟨b, off + j, none⟩ := Addr.add_lit ..
      rw [ha]
      exact hc j u hu
    obtain ⟨v', w', k1, k2, k3, _, k5⟩ := run_append_own_at (P := P) w base t ty e i z size bytes ht hi hz hsize hby hzs hsz v n xs hown ad m c news hs.len hcells h1 h63 hbytes hbase
    exact ⟨v', w', k1, k2, k3, k5⟩

theorem wpList_append_sl {P : Program} {w : World} {ops : Array Oper} {rest : List Oper} {o : Oper} {a : Act} {Q : Exit → Act → World → Prop} (hgd : o.guard = none) (s x : Operand) (t : TypeId)
    (ho : o.op = .call { callee := .builtin .append, args := #[s, x], argTypes := #[t, t] })
    (base : Nat) (e : TypeId) (i : TypeInfo) (z : Value) (size bytes : Nat) (ht : P.underlying t = some (.slice e)) (hi : P.info? e = some i) (hz : i.zero = some z)
    (hsize : i.size = size) (hby : i.bytes = bytes) (hzs : z.cells.size = size) (hsz : 0 < size)
    (v : Value) (n : Nat) (xs : List Value) (hs : a.eval s = v) (hown : w.ownsRow base e size v n xs)
    (B : Nat) (A : Option Addr) (m c : Nat) (news : List Value) (hx : a.eval x = .slice A m c) (hsl : Sl w B size A m c news) (h1 : ∀ u ∈ news, u.oneCell' = true)
    (h63 : n + m ≤ maxLen) (hbytes : (n + m) * bytes ≤ 140737488355328) (hbase : base ≤ w.heap.size)
    (h : ∀ v' w', w'.ownsRow base e size v' (n + m) (xs ++ news) → w.grownBy w' v.ownBlock → (v'.ownBlock = v.ownBlock ∨ v'.ownBlock = some w.heap.size) → wpList P ops Q rest (a.put o.dst v') w') :
    wpList P ops Q (o :: rest) a w := by
  refine wpList_plain hgd fun K hK => ?_
  obtain ⟨v', w', hr, h2, h3, h5⟩ := run_append_sl (P := P) w base t o.type e i z size bytes ht hi hz hsize hby hzs hsz v n xs hown B A m c news hsl h1 h63 hbytes hbase
  unfold Oper.wp
  simp [execOp, ho, resolve, invoke, builtin, hs, hx, hr, Result.andThen]
  exact hK _ _ (h v' w' h2 h3 h5)

theorem own_form {w : World} {base : Nat} {e : TypeId} {size : Nat} {v : Value} {n : Nat} {xs : List Value} (h : w.ownsRow base e size v n xs) : ∃ A c, v = .slice A n c := by
  rcases h.2 with ⟨rfl, rfl⟩ | ⟨g, cap, cur, rfl, _⟩
  · exact ⟨none, 0, rfl⟩
  · exact ⟨_, _, rfl⟩
theorem own_more {w : World} {base base' : Nat} {e : TypeId} {size : Nat} {v : Value} {n : Nat} {xs : List Value} (h : w.ownsRow base e size v n xs) (hb : base' ≤ base) : w.ownsRow base' e size v n xs := by
  refine ⟨h.1, ?_⟩
  rcases h.2 with h2 | ⟨g, cap, cur, hv, hg, r⟩
  · exact .inl h2
  · exact .inr ⟨g, cap, cur, hv, by omega, r⟩
theorem ints_one (l : List Int) : ∀ u ∈ ints l, u.oneCell' = true := by
  intro u hu
  obtain ⟨k, _, rfl⟩ := List.mem_map.1 hu
  rfl
theorem infoInt : (Tryz.prog.info? 3).map (fun i => (i.zero, i.size, i.bytes)) = some (some (.int .i64 0), 1, 8) := by kernel_rfl

/-- A list of ints in memory of the call's own. -/
def OwnL (base : Nat) (l : List Int) (w : World) (e : Ending) (w' : World) : Prop := ∃ A c, e = .returned (.slice A l.length c) ∧ w'.ownsRow base 3 1 (.slice A l.length c) l.length (ints l) ∧ Below w.heap.size w w'

set_option maxRecDepth 100000 in
theorem Clone_ (l : List Int) (A : Option Addr) (c : Nat) (w : World) (h : Sl w w.heap.size 1 A l.length c (ints l)) (hb : l.length * 8 ≤ 140737488355328) :
    Calls Tryz.prog 80 #[.slice A l.length c] w (OwnL w.heap.size l w) := by
  by_cases hn : 0 < l.length
  · obtain ⟨b, off, rfl, _, hc⟩ := h.at_ hn
    refine (Tryz.slices_Clone_int b off l.length c l w (Nat.le_refl _) hb (fun j hj => ?_)).mono ?_
    · rw [hc j _ (ints_at hj)]
      simp [List.getD, hj]
    · rintro e w' ⟨v', rfl, hown, _, hbw⟩
      obtain ⟨A', c', rfl⟩ := own_form hown
      rw [List.take_of_length_le (Nat.le_refl _)] at hown
      exact ⟨A', c', rfl, hown, hbw⟩
  · have hl : l = [] := List.eq_nil_of_length_eq_zero (by omega)
    subst hl
    cases A with
    | none =>
      refine (Tryz.slices_Clone_int_nil 0 c w).mono ?_
      rintro e w' ⟨rfl, rfl⟩
      exact ⟨none, 0, rfl, World.ownsRow_nil _ _ _ _, Below.refl _ _⟩
    | some ad =>
      refine (Tryz.slices_Clone_int_zero ad c w).mono ?_
      rintro e w' ⟨v', rfl, hown, _, hbw⟩
      obtain ⟨A', c', rfl⟩ := own_form hown
      exact ⟨A', c', rfl, hown, hbw⟩
end Go.Proofs.YtmpbhngjkbidcaaGreatDoor

/-
  The walks of copied, drafted, next, Draft, Follow, Withdraw, Print, of the program.
-/
namespace Go.Proofs.YtmpbhngjkbidcaaGreatDoor
open Go.RowKit Al

/-- The cells of an alert are a row of the call's own. -/
abbrev ARow (w : World) (base : Nat) (a : Alr) (A : Option Addr) (c : Nat) : Prop := w.ownsRow base 3 1 (.slice A a.cells.length c) a.cells.length (ints a.cells)
/-- An alert with cells in memory of the call's own. -/
def OwnA (a : Alr) (w : World) (e : Ending) (w' : World) : Prop := ∃ A c, e = .returned (a.val A c) ∧ ARow w' w.heap.size a A c ∧ Below w.heap.size w w'

/-- The cells of an alert. -/
@[reducible] def Al.Alr.lst (a : Alr) (A : Option Addr) (c : Nat) : List Value :=
  [.string a.ev, .int .i64 a.ver, .int .i64 a.tm, .int .i64 a.n, .int .i64 a.of, .int .i64 a.grid, .slice A a.cells.length c, .bool a.wd, .int .i64 a.before]
theorem below_setCells {n b : Nat} (hb : n ≤ b) : ∀ (vs : List Value) (o : Nat) (W w : World), Below n W w → Below n W (w.setCells b o vs)
  | [], _, _, _, h => h
  | v :: r, o, W, w, h => below_setCells hb r (o + 1) W _ (h.setCell (by simpa using hb) _)
theorem own_setCells {base e sz n b : Nat} {v : Value} {xs : List Value} (hb : b < base) : ∀ (vs : List Value) (o : Nat) (w : World), w.ownsRow base e sz v n xs → (w.setCells b o vs).ownsRow base e sz v n xs
  | [], _, _, h => h
  | u :: r, o, w, h => own_setCells hb r (o + 1) _ (ownsRow_setCell_below h (by simpa using hb) u)
/-- The end of a function whose result is written to a block of cells. -/
theorem finCells {P : Program} {fn : Func} {R : Ending → World → Prop} {a : Act} {w : World} (b : Nat) (vs : List Value) (v : Value) (hd : a.defers = [])
    (hres : ∀ W : World, (∀ j (hj : j < vs.length), W.cell? ⟨b, j, none⟩ = some vs[j]) → (results fn a.tmps).run P W = .ok v W)
    (his : ∀ j, j < vs.length → (w.cell? ⟨b, j, none⟩).isSome = true) (hR : R (.returned v) (w.setCells b 0 vs)) : bodyPost P fn R .ret a (w.setCells b 0 vs) :=
  bodyPost_ret (hres _ fun j hj => by have := World.cell?_setCells_in b vs 0 w (fun j hj => by rw [Nat.zero_add]; exact his j hj) j hj; rwa [Nat.zero_add] at this) hd hR
theorem lt9 {p : Nat → Prop} (h : p 0 ∧ p 1 ∧ p 2 ∧ p 3 ∧ p 4 ∧ p 5 ∧ p 6 ∧ p 7 ∧ p 8) : ∀ j, j < 9 → p j
  | 0, _ => h.1 | 1, _ => h.2.1 | 2, _ => h.2.2.1 | 3, _ => h.2.2.2.1 | 4, _ => h.2.2.2.2.1 | 5, _ => h.2.2.2.2.2.1 | 6, _ => h.2.2.2.2.2.2.1 | 7, _ => h.2.2.2.2.2.2.2.1 | 8, _ => h.2.2.2.2.2.2.2.2
  | n + 9, h' => absurd h' (by omega)

set_option maxRecDepth 100000 in
theorem copied_ (a : Alr) (A : Option Addr) (c : Nat) (w : World) (h : AIn w a A c) (hb : a.cells.length * 8 ≤ 140737488355328) :
    Calls Tryz.prog 45 #[a.val A c] w (OwnA a w) := by
  have HS := Lib.hid h
  clear h
  go_enter Tryz.func45, Tryz.ntmps45
  go_wp2_with fail
  refine (Clone_ a.cells A c _ (HS.out.below (by (repeat (first | exact Below.refl _ _ | assumption | refine below_drewN ?_ _ | refine Below.drew ?_ | refine Below.setCell ?_ (by first | omega | (simp; done) | (simp; omega)) _ | refine Below.alloc ?_ (by first | omega | (simp; done) | (simp; omega)) _)))).sl hb).mono ?_
  rintro e w1 ⟨A', c', rfl, hown, hbw⟩
  obtain ⟨hc1, hf1⟩ := bcell hbw
  have HB := Lib.hid ((show Below w.heap.size w _ from by (repeat (first | exact Below.refl _ _ | assumption | refine below_drewN ?_ _ | refine Below.drew ?_ | refine Below.setCell ?_ (by first | omega | (simp; done) | (simp; omega)) _ | refine Below.alloc ?_ (by first | omega | (simp; done) | (simp; omega)) _))).trans (hbw.mono (by first | omega | (simp; done) | (simp; omega))))
  have HO := Lib.hid hown
  have hz1 := hbw.size
  simp at hz1
  clear hbw hown
  have hz2 : w.heap.size < w1.heap.size := by omega
  have hz3 : w.heap.size + 1 < w1.heap.size := by omega
  have hset : ∀ u, (w1.setCell ⟨w.heap.size, 6, none⟩ u).cell? ⟨w.heap.size, 6, none⟩ = some u := fun u => World.cell?_setCell_same' _ _ _ (by rw [hc1 _ _ (by simp; omega)]; simp [go_sem])
  go_wp2_with fail
  have hO := HO.out
  simp only [World.alloc, Array.size_push] at hO
  refine finCells (w := w1.setCell ⟨w.heap.size, 6, none⟩ (.slice A' a.cells.length c')) (w.heap.size + 1) (a.lst A' c') (a.val A' c') rfl ?_ ?_ (show OwnA a w _ _ from ⟨A', c', rfl, ?_, ?_⟩)
  · intro W hW
    have r0 := hW 0 (by simp)
    have r1 := hW 1 (by simp)
    have r2 := hW 2 (by simp)
    have r3 := hW 3 (by simp)
    have r4 := hW 4 (by simp)
    have r5 := hW 5 (by simp)
    have r6 := hW 6 (by simp)
    have r7 := hW 7 (by simp)
    have r8 := hW 8 (by simp)
    clear hW
    simp only [List.getElem_cons_zero, List.getElem_cons_succ] at r0 r1 r2 r3 r4 r5 r6 r7 r8
    simp [results, Tryz.results45, go_sem, r0, r1, r2, r3, r4, r5, r6, r7, r8]
  · refine lt9 ?_
    simp [go_sem, hc1]
  · exact own_more (base := w.heap.size + 1 + 1) (own_setCells (by omega) _ _ _ (ownsRow_setCell_below hO (by show w.heap.size < w.heap.size + 1 + 1; omega) _)) (by omega)
  · exact below_setCells (by omega) _ _ _ _ (HB.out.setCell (by simp) _)
end Go.Proofs.YtmpbhngjkbidcaaGreatDoor
