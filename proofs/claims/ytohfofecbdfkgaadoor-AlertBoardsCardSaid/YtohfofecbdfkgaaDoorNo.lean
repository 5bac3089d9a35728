/-
  The walks of the functions that ask whether a notice is valid.
-/
import Derived.Test.YtohfofecbdfkgaaDoorRo
namespace Go.Proofs.YtohfofecbdfkgaaDoor
open Go.RowKit Al

/-- A notice: an alert and its signatures (signer, number). -/
structure Ntc where
  a : Alr
  sg : List (Int × Int)
@[reducible] def Ntc.val (n : Ntc) (A : Option Addr) (c : Nat) (S : Option Addr) (sc : Nat) : Value :=
  .agg #[.string n.a.ev, .int .i64 n.a.ver, .int .i64 n.a.tm, .int .i64 n.a.n, .int .i64 n.a.of, .int .i64 n.a.grid, .slice A n.a.cells.length c, .bool n.a.wd, .int .i64 n.a.before, .slice S n.sg.length sc]
/-- A notice lies in the world. -/
structure NIn (w : World) (n : Ntc) (A : Option Addr) (c : Nat) (S : Option Addr) (sc : Nat) : Prop where
  al : AIn w n.a A c
  sl : Sl w w.heap.size 2 S n.sg.length sc (keyCells n.sg)
theorem NIn.below {w w' : World} {n : Ntc} {A : Option Addr} {c : Nat} {S : Option Addr} {sc : Nat} (h : NIn w n A c S sc) (hb : Below w.heap.size w w') : NIn w' n A c S sc :=
  ⟨h.al.below hb, (h.sl.below hb).more hb.size⟩

/-- Is a signature one of these keys for this digest? -/
def sigK (ks : List (Int × Int)) (d : Int) (s : Int × Int) : Bool := match ks[s.1.toNat]? with
  | some k => sigB k.1 k.2 d s.2
  | none => false
/-- Are the signatures, behind a signer, in order and right? -/
def sigsOk (ks : List (Int × Int)) (d : Int) : Int → List (Int × Int) → Bool
  | _, [] => true
  | last, s :: l => decide (last < s.1) && (decide (s.1 < ks.length) && (sigK ks d s && sigsOk ks d s.1 l))
/-- The error of a notice, for a valid roll. -/
def noticeE (ks : List (Int × Int)) (q : Int) (n : Ntc) : Int :=
  if okA n.a then (if sigsOk ks (digA n.a) (-1) n.sg then (if (n.sg.length : Int) < q then 103 else 0) else 102) else 101
theorem noticeE_bad {ks : List (Int × Int)} {q : Int} {n : Ntc} (h : okA n.a = false) : noticeE ks q n = 101 := by unfold noticeE; rw [h]; rfl
theorem noticeE_sig {ks : List (Int × Int)} {q : Int} {n : Ntc} (h : okA n.a = true) (h2 : sigsOk ks (digA n.a) (-1) n.sg = false) : noticeE ks q n = 102 := by unfold noticeE; rw [h, h2]; rfl
theorem noticeE_few {ks : List (Int × Int)} {q : Int} {n : Ntc} (h : okA n.a = true) (h2 : sigsOk ks (digA n.a) (-1) n.sg = true) (h3 : (n.sg.length : Int) < q) : noticeE ks q n = 103 := by unfold noticeE; rw [h, h2, if_pos h3]; rfl
theorem noticeE_ok {ks : List (Int × Int)} {q : Int} {n : Ntc} (h : okA n.a = true) (h2 : sigsOk ks (digA n.a) (-1) n.sg = true) (h3 : ¬ (n.sg.length : Int) < q) : noticeE ks q n = 0 := by unfold noticeE; rw [h, h2, if_neg h3]; rfl

theorem sigsOk_at {ks sg : List (Int × Int)} {d last : Int} {k : Nat} (h : k < sg.length) : sigsOk ks d last (sg.drop k) = (decide (last < sg[k].1) && (decide (sg[k].1 < ks.length) && (sigK ks d sg[k] && sigsOk ks d sg[k].1 (sg.drop (k + 1))))) := by
  rw [List.drop_eq_getElem_cons h]; rfl
theorem sigK_at {ks : List (Int × Int)} {d : Int} {s : Int × Int} (h : s.1.toNat < ks.length) : sigK ks d s = sigB ks[s.1.toNat].1 ks[s.1.toNat].2 d s.2 := by
  unfold sigK; rw [List.getElem?_eq_getElem h]
theorem sigsOk_end {ks sg : List (Int × Int)} {d last : Int} : sigsOk ks d last (sg.drop sg.length) = true := by rw [List.drop_of_length_le (Nat.le_refl _)]; rfl
theorem keysUp_at {ks : List (Int × Int)} {n i : Nat} (h : keysUp ks n = true) (hi : i < n) (hl : i < ks.length) : plaus ks[i].1 ks[i].2 = true := by
  by_cases h1 : keyOk ks i = true
  · rw [keyOk_at hl, Bool.and_eq_true] at h1; exact h1.1
  · rw [keysUp_false (by simpa using h1) hi] at h; cases h
theorem rollOk_key {ks : List (Int × Int)} {q : Int} (h : rollOk ks q = true) {i : Nat} (hi : i < ks.length) : plaus ks[i].1 ks[i].2 = true := by
  unfold rollOk at h; rw [Bool.and_eq_true] at h; exact keysUp_at h.1 hi hi

theorem sigs_go {ks sg : List (Int × Int)} {d last : Int} {k : Nat} (h : k < sg.length) (h1 : last < sg[k].1) (h2 : sg[k].1 < ks.length) (h3 : sigK ks d sg[k] = true) : sigsOk ks d last (sg.drop k) = sigsOk ks d sg[k].1 (sg.drop (k + 1)) := by
  rw [sigsOk_at h, decide_eq_true h1, decide_eq_true h2, h3]; rfl
theorem sigs_f1 {ks sg : List (Int × Int)} {d last : Int} {k : Nat} (h : k < sg.length) (h1 : ¬ last < sg[k].1) : sigsOk ks d last (sg.drop k) = false := by
  rw [sigsOk_at h, decide_eq_false h1]; rfl
theorem sigs_f2 {ks sg : List (Int × Int)} {d last : Int} {k : Nat} (h : k < sg.length) (h2 : ¬ sg[k].1 < ks.length) : sigsOk ks d last (sg.drop k) = false := by
  rw [sigsOk_at h, decide_eq_false h2, Bool.false_and, Bool.and_false]
theorem sigs_f3 {ks sg : List (Int × Int)} {d last : Int} {k : Nat} (h : k < sg.length) (h3 : sigK ks d sg[k] = false) : sigsOk ks d last (sg.drop k) = false := by
  rw [sigsOk_at h, h3, Bool.false_and, Bool.and_false, Bool.and_false]
theorem signed_is (m x d num : Int) (b : Bool) (w : World) (hs : sigB m x d num = b) (h1 : plaus m x = true) (hd : 0 ≤ d ∧ d ≤ 2147483646) :
    Calls Tryd.prog 67 #[.agg #[.int .i64 m, .int .i64 x], .int .i64 d, .int .i64 num] w fun e w' => e = .returned (.bool b) ∧ Below w.heap.size w w' := hs ▸ signed_ m x d num w h1 hd

def NoRel (ks : List (Int × Int)) (n : Ntc) (l i : Value) : Prop := ∃ (k : Nat) (last : Int), k ≤ n.sg.length ∧ l = .int .i64 last ∧ i = .int .i64 k ∧ -1 ≤ last ∧ Hid (sigsOk ks (digA n.a) last (n.sg.drop k) = sigsOk ks (digA n.a) (-1) n.sg)

set_option maxRecDepth 100000 in
set_option maxHeartbeats 2000000 in
theorem rollCheck_ (ks : List (Int × Int)) (q : Int) (K : Option Addr) (kc : Nat) (n : Ntc) (A : Option Addr) (c : Nat) (S : Option Addr) (sc : Nat) (w : World) (hr : Rin w ks K kc) (ho : rollOk ks q = true) (hn : NIn w n A c S sc) (ht : Rdy w) :
    Calls Tryd.prog 46 #[rollV ks K kc q, n.val A c S sc] w fun e w' => e = .returned (.int .i64 (noticeE ks q n)) ∧ Below w.heap.size w w' := by
  have hl1 : ks.length ≤ maxLen := Nat.le_trans hr.cap hr.max
  have hl2 : n.sg.length ≤ maxLen := Nat.le_trans hn.sl.cap hn.sl.max
  unfold maxLen at hl1 hl2
  have HR := Lib.hid hr
  have HN := Lib.hid hn
  have HT := Lib.hid ht
  have HO := Lib.hid ho
  clear hr hn ht ho
  by_cases hk : okA n.a = true
  · have HK := Lib.hid hk
    have HD := Lib.hid (digL_in (textL n.a))
    clear hk
    go_enter Tryd.func46, Tryd.ntmps46
    go_wp2_with fail
    refine (validA_is n.a A c _ true HK.out (HN.out.al.below (by (repeat (first | exact Below.refl _ _ | assumption | refine below_drewN ?_ _ | refine Below.drew ?_ | refine Below.setCell ?_ (by first | omega | (simp; done) | (simp; omega)) _ | refine Below.alloc ?_ (by first | omega | (simp; done) | (simp; omega)) _))))).mono ?_
    rintro e w1 ⟨rfl, hb⟩
    obtain ⟨hcw1, hfw1⟩ := bcell hb
    have Hw1 := Lib.hid ((show Below w.heap.size w _ from (by repeat (first | exact Below.refl _ _ | assumption | refine below_drewN ?_ _ | refine Below.drew ?_ | refine Below.setCell ?_ (by first | omega | (simp; done) | (simp; omega)) _ | refine Below.alloc ?_ (by first | omega | (simp; done) | (simp; omega)) _))).trans (hb.mono (by first | omega | (simp; done) | (simp; omega))))
    have hzw1 := hb.size
    try simp at hzw1
    clear hb
    go_wp2_with fail
    refine (digestA n.a A c _ HK.out (HN.out.al.below Hw1.out) (HT.out.below Hw1.out)).mono ?_
    rintro e w2 ⟨rfl, hb⟩
    obtain ⟨hcw2, hfw2⟩ := bcell hb
    have Hw2 := Lib.hid ((show Below w.heap.size w _ from (by repeat (first | exact Below.refl _ _ | exact (Hw1).out | refine below_drewN ?_ _ | refine Below.drew ?_ | refine Below.setCell ?_ (by first | omega | (simp; done) | (simp; omega)) _ | refine Below.alloc ?_ (by first | omega | (simp; done) | (simp; omega)) _))).trans (hb.mono (by first | omega | (simp; done) | (simp; omega))))
    have hzw2 := hb.size
    try simp at hzw2
    clear hb
    have hz3 : w.heap.size + 1 < w1.heap.size := by omega
    have hz4 : w.heap.size < w1.heap.size := by omega
    have hz5 : w.heap.size + 1 < w2.heap.size := by omega
    have hz6 : w.heap.size < w2.heap.size := by omega
    go_wp2_with fail
    go_loopw [6, 19] (fun l i wr => NoRel ks n l i ∧ Below w2.heap.size w2 wr) (fun _ i _ => n.sg.length - (intOf i).toNat)
    case atStart => exact ⟨⟨0, -1, Nat.zero_le _, rfl, rfl, by omega, rfl⟩, (by repeat (first | exact Below.refl _ _ | assumption | refine below_drewN ?_ _ | refine Below.drew ?_ | refine Below.setCell ?_ (by first | omega | (simp; done) | (simp; omega)) _ | refine Below.alloc ?_ (by first | omega | (simp; done) | (simp; omega)) _))⟩
    case round =>
      obtain ⟨⟨k, last, hkl, rfl, rfl, hla, hp⟩, hbw⟩ := hrel
      obtain ⟨hcw, hfw⟩ := bcell hbw
      have HB := Lib.hid hbw
      have hz := hbw.size
      have hWB := Lib.hid (Hw2.out.trans (hbw.mono Hw2.out.size))
      clear hbw
      by_cases hlt : k < n.sg.length
      · obtain ⟨sb, so, rfl, hsb, hs1, hs2⟩ := (HN.out.below hWB.out).sl.key_at hlt
        have hlt' : (k : Int) < (n.sg.length : Int) := by omega
        have hsb1 : sb < wr.heap.size + 1 := by omega
        by_cases h1 : last < n.sg[k].1
        · have h1' : decide (n.sg[k].1 ≤ last) = false := decide_eq_false (by omega)
          by_cases h2 : n.sg[k].1 < ks.length
          · have h2' : decide ((ks.length : Int) ≤ n.sg[k].1) = false := decide_eq_false (by omega)
            have hti : n.sg[k].1.toNat < ks.length := by omega
            have htz : ((n.sg[k].1.toNat : Nat) : Int) = n.sg[k].1 := by omega
            obtain ⟨kb, ko, rfl, hkb, hk1, hk2⟩ := (HR.out.below hWB.out).key_at hti
            have hkb1 : kb < wr.heap.size + 1 := by omega
            have hz7 : w.heap.size + 1 < wr.heap.size := by omega
            have hz8 : w.heap.size < wr.heap.size := by omega
            have hz9 : w.heap.size + 1 < wr.heap.size + 1 := by omega
            have hz10 : w.heap.size < wr.heap.size + 1 := by omega
            have hs0 : 0 ≤ n.sg[k].1 := by omega
            have hpl := Lib.hid (rollOk_key HO.out hti)
            by_cases h3 : sigB ks[n.sg[k].1.toNat].1 ks[n.sg[k].1.toNat].2 (digA n.a) n.sg[k].2 = true
            · have H3 := Lib.hid h3
              have HX := Lib.hid (sigs_go (ks := ks) (d := digA n.a) hlt h1 h2 (by rw [sigK_at hti]; exact h3))
              clear h3
              go_wp2_with fail
              refine wp_region_bw2 (by kernel_rfl) (by kernel_rfl) (fun hbwc => ?_)
              repeat (go_big_quiet_step ((go_at_call 67; exact bwCall (signed_is _ _ _ _ true _ H3.out hpl.out HD.out))))
              refine wpQuiet_nil ?_
              clear hbwc
              intro w3 hb
              have Hw3 := Lib.hid (HB.out.trans (Below.trans (by (repeat (first | exact Below.refl _ _ | assumption | refine below_drewN ?_ _ | refine Below.drew ?_ | refine Below.setCell ?_ (by first | omega | (simp; done) | (simp; omega)) _ | refine Below.alloc ?_ (by first | omega | (simp; done) | (simp; omega)) _))) (hb.mono (by simp; omega))))
              have HW3 := Lib.hid (hWB.out.trans (Below.trans (by (repeat (first | exact Below.refl _ _ | assumption | refine below_drewN ?_ _ | refine Below.drew ?_ | refine Below.setCell ?_ (by first | omega | (simp; done) | (simp; omega)) _ | refine Below.alloc ?_ (by first | omega | (simp; done) | (simp; omega)) _))) (hb.mono (by simp; omega))))
              obtain ⟨hcw3, hfw3⟩ := bcell hb
              have hz11 := hb.size
              simp at hz11
              have hz12 : wr.heap.size < w3.heap.size := by omega
              clear hb
              go_wp2_with fail
              go_roundw
              case rel => exact ⟨⟨k + 1, n.sg[k].1, by omega, rfl, by go_num, by omega, by show _ = _; rw [← HX.out, hp.out]⟩, Hw3.out⟩
              case measure => simp [intOf]; omega
            · have h3' : sigB ks[n.sg[k].1.toNat].1 ks[n.sg[k].1.toNat].2 (digA n.a) n.sg[k].2 = false := by simpa using h3
              have H3 := Lib.hid h3'
              have HF := Lib.hid (noticeE_sig (ks := ks) (q := q) HK.out (by rw [← hp.out]; exact sigs_f3 hlt (by rw [sigK_at hti]; exact h3')))
              clear h3 h3'
              go_wp2_with fail
              refine wp_region_bw2 (by kernel_rfl) (by kernel_rfl) (fun hbwc => ?_)
              repeat (go_big_quiet_step ((go_at_call 67; exact bwCall (signed_is _ _ _ _ false _ H3.out hpl.out HD.out))))
              refine wpQuiet_nil ?_
              clear hbwc
              intro w3 hb
              have Hw3 := Lib.hid (HB.out.trans (Below.trans (by (repeat (first | exact Below.refl _ _ | assumption | refine below_drewN ?_ _ | refine Below.drew ?_ | refine Below.setCell ?_ (by first | omega | (simp; done) | (simp; omega)) _ | refine Below.alloc ?_ (by first | omega | (simp; done) | (simp; omega)) _))) (hb.mono (by simp; omega))))
              have HW3 := Lib.hid (hWB.out.trans (Below.trans (by (repeat (first | exact Below.refl _ _ | assumption | refine below_drewN ?_ _ | refine Below.drew ?_ | refine Below.setCell ?_ (by first | omega | (simp; done) | (simp; omega)) _ | refine Below.alloc ?_ (by first | omega | (simp; done) | (simp; omega)) _))) (hb.mono (by simp; omega))))
              obtain ⟨hcw3, hfw3⟩ := bcell hb
              have hz11 := hb.size
              simp at hz11
              have hz12 : wr.heap.size < w3.heap.size := by omega
              clear hb
              go_wp2_with fail
              go_ret
              exact ⟨ret_int (by rw [HF.out]), HW3.out⟩
          · have h2' : decide ((ks.length : Int) ≤ n.sg[k].1) = true := decide_eq_true (by omega)
            have HF := Lib.hid (noticeE_sig (ks := ks) (q := q) HK.out (by rw [← hp.out]; exact sigs_f2 hlt h2))
            have hz7 : w.heap.size + 1 < wr.heap.size := by omega
            have hz8 : w.heap.size < wr.heap.size := by omega
            have hz9 : w.heap.size + 1 < wr.heap.size + 1 := by omega
            have hz10 : w.heap.size < wr.heap.size + 1 := by omega
            go_wp2_with fail
            refine wp_region_bw2 (by kernel_rfl) (by kernel_rfl) (fun hbwc => ?_)
            repeat (go_big_quiet_step (fail))
            refine wpQuiet_nil ?_
            clear hbwc
            intro w3 hb
            have Hw3 := Lib.hid (HB.out.trans (Below.trans (by (repeat (first | exact Below.refl _ _ | assumption | refine below_drewN ?_ _ | refine Below.drew ?_ | refine Below.setCell ?_ (by first | omega | (simp; done) | (simp; omega)) _ | refine Below.alloc ?_ (by first | omega | (simp; done) | (simp; omega)) _))) (hb.mono (by simp; omega))))
            have HW3 := Lib.hid (hWB.out.trans (Below.trans (by (repeat (first | exact Below.refl _ _ | assumption | refine below_drewN ?_ _ | refine Below.drew ?_ | refine Below.setCell ?_ (by first | omega | (simp; done) | (simp; omega)) _ | refine Below.alloc ?_ (by first | omega | (simp; done) | (simp; omega)) _))) (hb.mono (by simp; omega))))
            obtain ⟨hcw3, hfw3⟩ := bcell hb
            have hz11 := hb.size
            simp at hz11
            have hz12 : wr.heap.size < w3.heap.size := by omega
            clear hb
            go_wp2_with fail
            go_ret
            exact ⟨ret_int (by rw [HF.out]), HW3.out⟩
        · have h1' : decide (n.sg[k].1 ≤ last) = true := decide_eq_true (by omega)
          have HF := Lib.hid (noticeE_sig (ks := ks) (q := q) HK.out (by rw [← hp.out]; exact sigs_f1 hlt h1))
          have hz7 : w.heap.size + 1 < wr.heap.size := by omega
          have hz8 : w.heap.size < wr.heap.size := by omega
          have hz9 : w.heap.size + 1 < wr.heap.size + 1 := by omega
          have hz10 : w.heap.size < wr.heap.size + 1 := by omega
          go_wp2_with fail
          refine wp_region_bw2 (by kernel_rfl) (by kernel_rfl) (fun hbwc => ?_)
          repeat (go_big_quiet_step (fail))
          refine wpQuiet_nil ?_
          clear hbwc
          intro w3 hb
          have Hw3 := Lib.hid (HB.out.trans (Below.trans (by (repeat (first | exact Below.refl _ _ | assumption | refine below_drewN ?_ _ | refine Below.drew ?_ | refine Below.setCell ?_ (by first | omega | (simp; done) | (simp; omega)) _ | refine Below.alloc ?_ (by first | omega | (simp; done) | (simp; omega)) _))) (hb.mono (by simp; omega))))
          have HW3 := Lib.hid (hWB.out.trans (Below.trans (by (repeat (first | exact Below.refl _ _ | assumption | refine below_drewN ?_ _ | refine Below.drew ?_ | refine Below.setCell ?_ (by first | omega | (simp; done) | (simp; omega)) _ | refine Below.alloc ?_ (by first | omega | (simp; done) | (simp; omega)) _))) (hb.mono (by simp; omega))))
          obtain ⟨hcw3, hfw3⟩ := bcell hb
          have hz11 := hb.size
          simp at hz11
          have hz12 : wr.heap.size < w3.heap.size := by omega
          clear hb
          go_wp2_with fail
          go_ret
          exact ⟨ret_int (by rw [HF.out]), HW3.out⟩
      · obtain rfl : k = n.sg.length := by omega
        have HE : Hid (sigsOk ks (digA n.a) (-1) n.sg = true) := by
          show _ = _
          rw [← hp.out, sigsOk_end]
        by_cases h3 : (n.sg.length : Int) < q
        · have HF := Lib.hid (noticeE_few (ks := ks) HK.out HE.out h3)
          go_wp2_with fail
          go_ret
          exact ⟨ret_int (by rw [HF.out]), hWB.out⟩
        · have HF := Lib.hid (noticeE_ok (ks := ks) HK.out HE.out h3)
          go_wp2_with fail
          go_ret
          exact ⟨ret_int (by rw [HF.out]), hWB.out⟩
  · have hk' : okA n.a = false := by simpa using hk
    have HK := Lib.hid hk'
    have HF := Lib.hid (noticeE_bad (ks := ks) (q := q) hk')
    clear hk hk'
    go_enter Tryd.func46, Tryd.ntmps46
    go_wp2_with fail
    refine (validA_is n.a A c _ false HK.out (HN.out.al.below (by (repeat (first | exact Below.refl _ _ | assumption | refine below_drewN ?_ _ | refine Below.drew ?_ | refine Below.setCell ?_ (by first | omega | (simp; done) | (simp; omega)) _ | refine Below.alloc ?_ (by first | omega | (simp; done) | (simp; omega)) _))))).mono ?_
    rintro e w1 ⟨rfl, hb⟩
    obtain ⟨hcw1, hfw1⟩ := bcell hb
    have Hw1 := Lib.hid ((show Below w.heap.size w _ from (by repeat (first | exact Below.refl _ _ | assumption | refine below_drewN ?_ _ | refine Below.drew ?_ | refine Below.setCell ?_ (by first | omega | (simp; done) | (simp; omega)) _ | refine Below.alloc ?_ (by first | omega | (simp; done) | (simp; omega)) _))).trans (hb.mono (by first | omega | (simp; done) | (simp; omega))))
    have hzw1 := hb.size
    try simp at hzw1
    clear hb
    go_wp2_with fail
    go_ret
    exact ⟨ret_int (by rw [HF.out]), Hw1.out⟩
end Go.Proofs.YtohfofecbdfkgaaDoor
