/-
  The walks of the specification's notice and CheckNotice.
-/
import Derived.Test.YtohfofecbdfkgaaGreatDoorU07
import Derived.Test.YtohfofecbdfkgaaGreatDoorU01
import Derived.Maps.AppendAt
import Derived.OwnWalk
namespace Go.Proofs.YtohfofecbdfkgaaGreatDoor
open Go.RowKit Al

/-- The signer ahead of the k-th. -/
def prevS (sg : List (Int × Int)) : Nat → Int
  | 0 => -1
  | k + 1 => match sg[k]? with | some s => s.1 | none => -1
theorem prevS_at {sg : List (Int × Int)} {k : Nat} (h : k < sg.length) : prevS sg (k + 1) = sg[k].1 := by
  show (match sg[k]? with | some s => s.1 | none => (-1 : Int)) = _
  rw [List.getElem?_eq_getElem h]
theorem prevS_pos {sg : List (Int × Int)} {k : Nat} (h : ¬ k = 0) (h2 : k - 1 < sg.length) : prevS sg k = sg[k - 1].1 := by
  obtain ⟨j, rfl⟩ : ∃ j, k = j + 1 := ⟨k - 1, by omega⟩
  exact prevS_at (by simpa using h2)
theorem sigs_out {ks sg : List (Int × Int)} {d last : Int} {k : Nat} (h : k < sg.length) (hl : -1 ≤ last) (hi : inB sg[k].1 0 ((ks.length : Int) - 1) = false) : sigsOk ks d last (sg.drop k) = false := by
  have := inB_false.1 hi
  by_cases h1 : last < sg[k].1
  · exact sigs_f2 h (by omega)
  · exact sigs_f1 h h1
theorem rsigned_is (m x num : Int) (a : Alr) (A : Option Addr) (c : Nat) (b : Bool) (w : World) (hs : sigB m x (digA a) num = b) (h1 : plaus m x = true) (hk : okA a = true) (h : AIn w a A c) :
    Calls Tryz.prog 134 #[.agg #[.int .i64 m, .int .i64 x], a.val A c, .int .i64 num] w fun e w' => e = .returned (.bool b) ∧ Below w.heap.size w w' := hs ▸ rsigned_ m x num a A c w h1 hk h
def NrRel (ks : List (Int × Int)) (n : Ntc) (i : Value) : Prop := ∃ k : Nat, k ≤ n.sg.length ∧ i = .int .i64 k ∧ -1 ≤ prevS n.sg k ∧ (0 < k → 0 ≤ prevS n.sg k) ∧ Hid (sigsOk ks (digA n.a) (prevS n.sg k) (n.sg.drop k) = sigsOk ks (digA n.a) (-1) n.sg)

set_option maxRecDepth 100000 in
set_option maxHeartbeats 4000000 in
theorem rnotice_ (ks : List (Int × Int)) (q : Int) (K : Option Addr) (kc : Nat) (n : Ntc) (A : Option Addr) (c : Nat) (S : Option Addr) (sc : Nat) (w : World) (hr : Rin w ks K kc) (ho : rollOk ks q = true) (hn : NIn w n A c S sc) :
    Calls Tryz.prog 101 #[rollV ks K kc q, n.val A c S sc] w fun e w' => e = .returned (.int .i64 (noticeE ks q n)) ∧ Below w.heap.size w w' := by
  have hl1 : ks.length ≤ maxLen := Nat.le_trans hr.cap hr.max
  have hl2 : n.sg.length ≤ maxLen := Nat.le_trans hn.sl.cap hn.sl.max
  unfold maxLen at hl1 hl2
  have HR := Lib.hid hr
  have HN := Lib.hid hn
  have HO := Lib.hid ho
  clear hr hn ho
  by_cases hk : okA n.a = true
  · have HK := Lib.hid hk
    clear hk
    go_enter Tryz.func101, Tryz.ntmps101
    go_wp2_with fail
    refine (rcheckA_is n.a A c _ 0 (errA_t HK.out) (HN.out.al.below (by (repeat (first | exact Below.refl _ _ | assumption | refine below_drewN ?_ _ | refine Below.drew ?_ | refine Below.setCell ?_ (by first | omega | (simp; done) | (simp; omega)) _ | refine Below.alloc ?_ (by first | omega | (simp; done) | (simp; omega)) _))))).mono ?_
    rintro e w1 ⟨rfl, hb⟩
    obtain ⟨hcw1, hfw1⟩ := bcell hb
    have Hw1 := Lib.hid ((show Below w.heap.size w _ from (by repeat (first | exact Below.refl _ _ | assumption | refine below_drewN ?_ _ | refine Below.drew ?_ | refine Below.setCell ?_ (by first | omega | (simp; done) | (simp; omega)) _ | refine Below.alloc ?_ (by first | omega | (simp; done) | (simp; omega)) _))).trans (hb.mono (by first | omega | (simp; done) | (simp; omega))))
    have hzw1 := hb.size
    try simp at hzw1
    clear hb
    have hz3 : w.heap.size + 1 < w1.heap.size := by omega
    have hz4 : w.heap.size < w1.heap.size := by omega
    go_wp2_with fail
    go_loopw [6] (fun i wr => NrRel ks n i ∧ Below w1.heap.size w1 wr) (fun i _ => n.sg.length - (intOf i).toNat)
    case atStart => exact ⟨⟨0, Nat.zero_le _, rfl, by show (-1 : Int) ≤ -1; omega, fun h => absurd h (by omega), rfl⟩, (by repeat (first | exact Below.refl _ _ | assumption | refine below_drewN ?_ _ | refine Below.drew ?_ | refine Below.setCell ?_ (by first | omega | (simp; done) | (simp; omega)) _ | refine Below.alloc ?_ (by first | omega | (simp; done) | (simp; omega)) _))⟩
    case round =>
      obtain ⟨⟨k, hkl, rfl, hla, hlb, hp⟩, hbw⟩ := hrel
      obtain ⟨hcw, hfw⟩ := bcell hbw
      have HB := Lib.hid hbw
      have hz := hbw.size
      have hWB := Lib.hid (Hw1.out.trans (hbw.mono Hw1.out.size))
      clear hbw
      by_cases hlt : k < n.sg.length
      · obtain ⟨sb, so, rfl, hsb, hs1, hs2⟩ := (HN.out.below hWB.out).sl.key_at hlt
        have hlt' : (k : Int) < (n.sg.length : Int) := by omega
        have hsb1 : sb < wr.heap.size + 1 := by omega
        have hz7 : w.heap.size + 1 < wr.heap.size := by omega
        have hz8 : w.heap.size < wr.heap.size := by omega
        have hz9 : w.heap.size + 1 < wr.heap.size + 1 := by omega
        have hz10 : w.heap.size < wr.heap.size + 1 := by omega
        by_cases hi : inB n.sg[k].1 0 ((ks.length : Int) - 1) = true
        · have bi := inB_true.1 hi
          have HI := Lib.hid hi
          clear hi
          have hti : n.sg[k].1.toNat < ks.length := by omega
          have htz : ((n.sg[k].1.toNat : Nat) : Int) = n.sg[k].1 := by omega
          have hs0 : 0 ≤ n.sg[k].1 := by omega
          have h2 : n.sg[k].1 < ks.length := by omega
          by_cases hk0 : k = 0
          · have hk0' : decide (0 < k) = false := decide_eq_false (by omega)
            have h1 : prevS n.sg k < n.sg[k].1 := by subst hk0; show (-1 : Int) < _; omega
            clear hk0
            obtain ⟨kb, ko, rfl, hkb, hk1, hk2⟩ := (HR.out.below hWB.out).key_at hti
            have hkb1 : kb < wr.heap.size + 1 := by omega
            have hpl := Lib.hid (rollOk_key HO.out hti)
            by_cases h3 : sigB ks[n.sg[k].1.toNat].1 ks[n.sg[k].1.toNat].2 (digA n.a) n.sg[k].2 = true
            · have H3 := Lib.hid h3
              have HX := Lib.hid (sigs_go (ks := ks) (d := digA n.a) hlt h1 h2 (by rw [sigK_at hti]; exact h3))
              clear h3
              go_wp2_with fail
              refine wp_region_bw2 (by kernel_rfl) (by kernel_rfl) (fun hbwc => ?_)
              repeat (go_big_quiet_step ((first | (go_at_call 76; exact bwSame (In_is _ _ _ _ HI.out _)) | (go_at_call 134; exact bwCall (rsigned_is _ _ _ n.a A c true _ H3.out hpl.out HK.out (AIn.below (AIn.below (HN.out.below hWB.out).al (by (repeat (first | exact Below.refl _ _ | assumption | refine below_drewN ?_ _ | refine Below.drew ?_ | refine Below.setCell ?_ (by first | omega | (simp; done) | (simp; omega)) _ | refine Below.alloc ?_ (by first | omega | (simp; done) | (simp; omega)) _)))) (BW.below _)))))))
              refine wpQuiet_nil ?_
              clear hbwc
              intro w3 hb
              have Hw3 := Lib.hid (HB.out.trans (Below.trans (by (repeat (first | exact Below.refl _ _ | assumption | refine below_drewN ?_ _ | refine Below.drew ?_ | refine Below.setCell ?_ (by first | omega | (simp; done) | (simp; omega)) _ | refine Below.alloc ?_ (by first | omega | (simp; done) | (simp; omega)) _))) (hb.mono (by simp; omega))))
              have HW3 := Lib.hid (hWB.out.trans (Below.trans (by (repeat (first | exact Below.refl _ _ | assumption | refine below_drewN ?_ _ | refine Below.drew ?_ | refine Below.setCell ?_ (by first | omega | (simp; done) | (simp; omega)) _ | refine Below.alloc ?_ (by first | omega | (simp; done) | (simp; omega)) _))) (hb.mono (by simp; omega))))
              obtain ⟨hcw3, hfw3⟩ := bcell hb
              have hz11 := hb.size
              simp at hz11
              have hz12 : wr.heap.size < w3.heap.size := by omega
              clear hb
              go_wp2_with fail
              go_roundw
              case rel => exact ⟨⟨k + 1, by omega, by go_num, by rw [prevS_at hlt]; omega, fun _ => by rw [prevS_at hlt]; omega, by show _ = _; rw [prevS_at hlt, ← HX.out, hp.out]⟩, Hw3.out⟩
              case measure => simp [intOf]; omega
            · have h3' : sigB ks[n.sg[k].1.toNat].1 ks[n.sg[k].1.toNat].2 (digA n.a) n.sg[k].2 = false := by simpa using h3
              have H3 := Lib.hid h3'
              have HF := Lib.hid (noticeE_sig (ks := ks) (q := q) HK.out (by rw [← hp.out]; exact sigs_f3 hlt (by rw [sigK_at hti]; exact h3')))
              clear h3 h3'
              go_wp2_with fail
              refine wp_region_bw2 (by kernel_rfl) (by kernel_rfl) (fun hbwc => ?_)
              repeat (go_big_quiet_step ((first | (go_at_call 76; exact bwSame (In_is _ _ _ _ HI.out _)) | (go_at_call 134; exact bwCall (rsigned_is _ _ _ n.a A c false _ H3.out hpl.out HK.out (AIn.below (AIn.below (HN.out.below hWB.out).al (by (repeat (first | exact Below.refl _ _ | assumption | refine below_drewN ?_ _ | refine Below.drew ?_ | refine Below.setCell ?_ (by first | omega | (simp; done) | (simp; omega)) _ | refine Below.alloc ?_ (by first | omega | (simp; done) | (simp; omega)) _)))) (BW.below _)))))))
              refine wpQuiet_nil ?_
              clear hbwc
              intro w3 hb
              have Hw3 := Lib.hid (HB.out.trans (Below.trans (by (repeat (first | exact Below.refl _ _ | assumption | refine below_drewN ?_ _ | refine Below.drew ?_ | refine Below.setCell ?_ (by first | omega | (simp; done) | (simp; omega)) _ | refine Below.alloc ?_ (by first | omega | (simp; done) | (simp; omega)) _))) (hb.mono (by simp; omega))))
              have HW3 := Lib.hid (hWB.out.trans (Below.trans (by (repeat (first | exact Below.refl _ _ | assumption | refine below_drewN ?_ _ | refine Below.drew ?_ | refine Below.setCell ?_ (by first | omega | (simp; done) | (simp; omega)) _ | refine Below.alloc ?_ (by first | omega | (simp; done) | (simp; omega)) _))) (hb.mono (by simp; omega))))
              obtain ⟨hcw3, hfw3⟩ := bcell hb
              have hz11 := hb.size
              simp at hz11
              have hz12 : wr.heap.size < w3.heap.size := by omega
              clear hb
              go_wp2_with fail
              go_ret
              exact ⟨ret_int (by rw [HF.out]), HW3.out⟩
          · have hk0' : decide (0 < k) = true := decide_eq_true (by omega)
            have hk1n : k - 1 < n.sg.length := by omega
            have hkm : (0 : Int) ≤ (k : Int) - 1 := by omega
            have hkm2 : (k : Int) - 1 < (n.sg.length : Int) := by omega
            have hkm3 : ((k : Int) - 1).toNat = k - 1 := by omega
            have hpv := prevS_pos hk0 hk1n
            clear hk0
            obtain ⟨_, _, he, _, hp1, hp2⟩ := (HN.out.below hWB.out).sl.key_at hk1n
            cases he
            by_cases h1 : prevS n.sg k < n.sg[k].1
            · have h1' : decide (n.sg[k].1 ≤ n.sg[k - 1].1) = false := decide_eq_false (by omega)
              obtain ⟨kb, ko, rfl, hkb, hk1, hk2⟩ := (HR.out.below hWB.out).key_at hti
              have hkb1 : kb < wr.heap.size + 1 := by omega
              have hpl := Lib.hid (rollOk_key HO.out hti)
              by_cases h3 : sigB ks[n.sg[k].1.toNat].1 ks[n.sg[k].1.toNat].2 (digA n.a) n.sg[k].2 = true
              · have H3 := Lib.hid h3
                have HX := Lib.hid (sigs_go (ks := ks) (d := digA n.a) hlt h1 h2 (by rw [sigK_at hti]; exact h3))
                clear h3
                go_wp2_with fail
                refine wp_region_bw2 (by kernel_rfl) (by kernel_rfl) (fun hbwc => ?_)
                repeat (go_big_quiet_step ((first | (go_at_call 76; exact bwSame (In_is _ _ _ _ HI.out _)) | (go_at_call 134; exact bwCall (rsigned_is _ _ _ n.a A c true _ H3.out hpl.out HK.out (AIn.below (AIn.below (HN.out.below hWB.out).al (by (repeat (first | exact Below.refl _ _ | assumption | refine below_drewN ?_ _ | refine Below.drew ?_ | refine Below.setCell ?_ (by first | omega | (simp; done) | (simp; omega)) _ | refine Below.alloc ?_ (by first | omega | (simp; done) | (simp; omega)) _)))) (BW.below _)))))))
                refine wpQuiet_nil ?_
                clear hbwc
                intro w3 hb
                have Hw3 := Lib.hid (HB.out.trans (Below.trans (by (repeat (first | exact Below.refl _ _ | assumption | refine below_drewN ?_ _ | refine Below.drew ?_ | refine Below.setCell ?_ (by first | omega | (simp; done) | (simp; omega)) _ | refine Below.alloc ?_ (by first | omega | (simp; done) | (simp; omega)) _))) (hb.mono (by simp; omega))))
                have HW3 := Lib.hid (hWB.out.trans (Below.trans (by (repeat (first | exact Below.refl _ _ | assumption | refine below_drewN ?_ _ | refine Below.drew ?_ | refine Below.setCell ?_ (by first | omega | (simp; done) | (simp; omega)) _ | refine Below.alloc ?_ (by first | omega | (simp; done) | (simp; omega)) _))) (hb.mono (by simp; omega))))
                obtain ⟨hcw3, hfw3⟩ := bcell hb
                have hz11 := hb.size
                simp at hz11
                have hz12 : wr.heap.size < w3.heap.size := by omega
                clear hb
                go_wp2_with fail
                go_roundw
                case rel => exact ⟨⟨k + 1, by omega, by go_num, by rw [prevS_at hlt]; omega, fun _ => by rw [prevS_at hlt]; omega, by show _ = _; rw [prevS_at hlt, ← HX.out, hp.out]⟩, Hw3.out⟩
                case measure => simp [intOf]; omega
              · have h3' : sigB ks[n.sg[k].1.toNat].1 ks[n.sg[k].1.toNat].2 (digA n.a) n.sg[k].2 = false := by simpa using h3
                have H3 := Lib.hid h3'
                have HF := Lib.hid (noticeE_sig (ks := ks) (q := q) HK.out (by rw [← hp.out]; exact sigs_f3 hlt (by rw [sigK_at hti]; exact h3')))
                clear h3 h3'
                go_wp2_with fail
                refine wp_region_bw2 (by kernel_rfl) (by kernel_rfl) (fun hbwc => ?_)
                repeat (go_big_quiet_step ((first | (go_at_call 76; exact bwSame (In_is _ _ _ _ HI.out _)) | (go_at_call 134; exact bwCall (rsigned_is _ _ _ n.a A c false _ H3.out hpl.out HK.out (AIn.below (AIn.below (HN.out.below hWB.out).al (by (repeat (first | exact Below.refl _ _ | assumption | refine below_drewN ?_ _ | refine Below.drew ?_ | refine Below.setCell ?_ (by first | omega | (simp; done) | (simp; omega)) _ | refine Below.alloc ?_ (by first | omega | (simp; done) | (simp; omega)) _)))) (BW.below _)))))))
                refine wpQuiet_nil ?_
                clear hbwc
                intro w3 hb
                have Hw3 := Lib.hid (HB.out.trans (Below.trans (by (repeat (first | exact Below.refl _ _ | assumption | refine below_drewN ?_ _ | refine Below.drew ?_ | refine Below.setCell ?_ (by first | omega | (simp; done) | (simp; omega)) _ | refine Below.alloc ?_ (by first | omega | (simp; done) | (simp; omega)) _))) (hb.mono (by simp; omega))))
                have HW3 := Lib.hid (hWB.out.trans (Below.trans (by (repeat (first | exact Below.refl _ _ | assumption | refine below_drewN ?_ _ | refine Below.drew ?_ | refine Below.setCell ?_ (by first | omega | (simp; done) | (simp; omega)) _ | refine Below.alloc ?_ (by first | omega | (simp; done) | (simp; omega)) _))) (hb.mono (by simp; omega))))
                obtain ⟨hcw3, hfw3⟩ := bcell hb
                have hz11 := hb.size
                simp at hz11
                have hz12 : wr.heap.size < w3.heap.size := by omega
                clear hb
                go_wp2_with fail
                go_ret
                exact ⟨ret_int (by rw [HF.out]), HW3.out⟩
            · have h1' : decide (n.sg[k].1 ≤ n.sg[k - 1].1) = true := decide_eq_true (by omega)
              have HF := Lib.hid (noticeE_sig (ks := ks) (q := q) HK.out (by rw [← hp.out]; exact sigs_f1 hlt h1))
              go_wp2_with fail
              refine wp_region_bw2 (by kernel_rfl) (by kernel_rfl) (fun hbwc => ?_)
              repeat (go_big_quiet_step ((go_at_call 76; exact bwSame (In_is _ _ _ _ HI.out _))))
              refine wpQuiet_nil ?_
              clear hbwc
              intro w3 hb
              have Hw3 := Lib.hid (HB.out.trans (Below.trans (by (repeat (first | exact Below.refl _ _ | assumption | refine below_drewN ?_ _ | refine Below.drew ?_ | refine Below.setCell ?_ (by first | omega | (simp; done) | (simp; omega)) _ | refine Below.alloc ?_ (by first | omega | (simp; done) | (simp; omega)) _))) (hb.mono (by simp; omega))))
              have HW3 := Lib.hid (hWB.out.trans (Below.trans (by (repeat (first | exact Below.refl _ _ | assumption | refine below_drewN ?_ _ | refine Below.drew ?_ | refine Below.setCell ?_ (by first | omega | (simp; done) | (simp; omega)) _ | refine Below.alloc ?_ (by first | omega | (simp; done) | (simp; omega)) _))) (hb.mono (by simp; omega))))
              obtain ⟨hcw3, hfw3⟩ := bcell hb
              have hz11 := hb.size
              simp at hz11
              have hz12 : wr.heap.size < w3.heap.size := by omega
              clear hb
              go_wp2_with fail
              go_ret
              exact ⟨ret_int (by rw [HF.out]), HW3.out⟩
        · have hi' : inB n.sg[k].1 0 ((ks.length : Int) - 1) = false := by simpa using hi
          have HI := Lib.hid hi'
          have HF := Lib.hid (noticeE_sig (ks := ks) (q := q) HK.out (by rw [← hp.out]; exact sigs_out hlt hla hi'))
          clear hi hi'
          go_wp2_with fail
          refine wp_region_bw2 (by kernel_rfl) (by kernel_rfl) (fun hbwc => ?_)
          repeat (go_big_quiet_step ((go_at_call 76; exact bwSame (In_is _ _ _ _ HI.out _))))
          refine wpQuiet_nil ?_
          clear hbwc
          intro w3 hb
          have Hw3 := Lib.hid (HB.out.trans (Below.trans (by (repeat (first | exact Below.refl _ _ | assumption | refine below_drewN ?_ _ | refine Below.drew ?_ | refine Below.setCell ?_ (by first | omega | (simp; done) | (simp; omega)) _ | refine Below.alloc ?_ (by first | omega | (simp; done) | (simp; omega)) _))) (hb.mono (by simp; omega))))
          have HW3 := Lib.hid (hWB.out.trans (Below.trans (by (repeat (first | exact Below.refl _ _ | assumption | refine below_drewN ?_ _ | refine Below.drew ?_ | refine Below.setCell ?_ (by first | omega | (simp; done) | (simp; omega)) _ | refine Below.alloc ?_ (by first | omega | (simp; done) | (simp; omega)) _))) (hb.mono (by simp; omega))))
          obtain ⟨hcw3, hfw3⟩ := bcell hb
          have hz11 := hb.size
          simp at hz11
          have hz12 : wr.heap.size < w3.heap.size := by omega
          clear hb
          go_wp2_with fail
          go_ret
          exact ⟨ret_int (by rw [HF.out]), HW3.out⟩
      · obtain rfl : k = n.sg.length := by omega
        have HE : Hid (sigsOk ks (digA n.a) (-1) n.sg = true) := by
          show _ = _
          rw [← hp.out, sigsOk_end]
        have hz7 : w.heap.size + 1 < wr.heap.size := by omega
        have hz8 : w.heap.size < wr.heap.size := by omega
        by_cases h3 : (n.sg.length : Int) < q
        · have HF := Lib.hid (noticeE_few (ks := ks) HK.out HE.out h3)
          go_wp2_with fail
          go_ret
          exact ⟨ret_int (by rw [HF.out]), hWB.out⟩
        · have HF := Lib.hid (noticeE_ok (ks := ks) HK.out HE.out h3)
          go_wp2_with fail
          go_ret
          exact ⟨ret_int (by rw [HF.out]), hWB.out⟩
  · have hk' : okA n.a = false := by simpa using hk
    have HK := Lib.hid hk'
    have HF := Lib.hid (noticeE_bad (ks := ks) (q := q) hk')
    clear hk hk'
    go_enter Tryz.func101, Tryz.ntmps101
    go_wp2_with fail
    refine (rcheckA_is n.a A c _ 101 (errA_f HK.out) (HN.out.al.below (by (repeat (first | exact Below.refl _ _ | assumption | refine below_drewN ?_ _ | refine Below.drew ?_ | refine Below.setCell ?_ (by first | omega | (simp; done) | (simp; omega)) _ | refine Below.alloc ?_ (by first | omega | (simp; done) | (simp; omega)) _))))).mono ?_
    rintro e w1 ⟨rfl, hb⟩
    obtain ⟨hcw1, hfw1⟩ := bcell hb
    have Hw1 := Lib.hid ((show Below w.heap.size w _ from (by repeat (first | exact Below.refl _ _ | assumption | refine below_drewN ?_ _ | refine Below.drew ?_ | refine Below.setCell ?_ (by first | omega | (simp; done) | (simp; omega)) _ | refine Below.alloc ?_ (by first | omega | (simp; done) | (simp; omega)) _))).trans (hb.mono (by first | omega | (simp; done) | (simp; omega))))
    have hzw1 := hb.size
    try simp at hzw1
    clear hb
    go_wp2_with fail
    go_ret
    exact ⟨ret_int (by rw [HF.out]), Hw1.out⟩

theorem rCheckRoll_is (ks : List (Int × Int)) (q : Int) (A : Option Addr) (c : Nat) (w : World) (v : Int) (hv : errA (rollOk ks q) 104 = v) (h : Rin w ks A c) :
    Calls Tryz.prog 100 #[rollV ks A c q] w fun e w' => e = .returned (.int .i64 v) ∧ Below w.heap.size w w' := hv ▸ rCheckRoll_ ks q A c w h

end Go.Proofs.YtohfofecbdfkgaaGreatDoor

/-
  Slices of the call's own memory: append onto such a row of a slice that reads as cells; OwnInts; slices.Clone.
-/
namespace Go.Proofs.YtohfofecbdfkgaaGreatDoor
open Go.RowKit Al

theorem run_append_sl {P : Program} (w : World) (base : Nat) (t ty e : TypeId) (i : TypeInfo) (z : Value) (size bytes : Nat) (ht : P.underlying t = some (.slice e)) (hi : P.info? e = some i) (hz : i.zero = some z)
    (hsize : i.size = size) (hby : i.bytes = bytes) (hzs : z.cells.size = size) (hsz : 0 < size)
    (v : Value) (n : Nat) (xs : List Value) (hown : w.ownsRow base e size v n xs) (B : Nat) (A : Option Addr) (m c : Nat) (news : List Value) (hs : Sl w B size A m c news)
    (h1 : ∀ u ∈ news, u.oneCell' = true) (h63 : n + m ≤ maxLen) (hbytes : (n + m) * bytes ≤ 140737488355328) (hbase : base ≤ w.heap.size) :
    ∃ v' w', (Builtin.append_ #[t, t] ty #[v, .slice A m c]).run P w = .ok v' w' ∧ w'.ownsRow base e size v' (n + m) (xs ++ news) ∧ w.grownBy w' v.ownBlock ∧ (v'.ownBlock = v.ownBlock ∨ v'.ownBlock = some w.heap.size) := by
  cases A with
  | none =>
    have hc := hs.nil_ rfl
    subst hc
    have hm : m = 0 := by have := hs.cap; omega
    subst hm
    have hn : news = [] := List.eq_nil_of_length_eq_zero (by have := hs.len; omega)
    subst hn
    exact ⟨v, w, run_append_owned_none w base t ty e i size ht hi v n xs hown, by simpa using hown, World.grownBy.refl w _, .inl rfl⟩
  | some ad =>
    have hcells : ∀ j u, news[j]? = some u → w.cell? (ad.add j) = some u := by
      intro j u hu
      have hm : 0 < m := by
        rcases Nat.eq_zero_or_pos m with h0 | h0
        · subst h0
          have : news = [] := List.eq_nil_of_length_eq_zero (by have := hs.len; omega)
          subst this
          cases hu
        · exact h0
      obtain ⟨b, off, he, _, hc⟩ := hs.at_ hm
      cases he
      have ha : (⟨b, off, none⟩ : Addr).add j = ⟨b, off + j, none⟩ := Addr.add_lit ..
      rw [ha]
      exact hc j u hu
    obtain ⟨v', w', k1, k2, k3, _, k5⟩ := run_append_own_at (P := P) w base t ty e i z size bytes ht hi hz hsize hby hzs hsz v n xs hown ad m c news hs.len hcells h1 h63 hbytes hbase
    exact ⟨v', w', k1, k2, k3, k5⟩

theorem wpList_append_sl {P : Program} {w : World} {ops : Array Oper} {rest : List Oper} {o : Oper} {a : Act} {Q : Exit → Act → World → Prop} (hgd : o.guard = none) (s x : Operand) (t : TypeId)
    (ho : o.op = .call { callee := .builtin .append, args := #[s, x], argTypes := #[t, t] })
    (base : Nat) (e : TypeId) (i : TypeInfo) (z : Value) (size bytes : Nat) (ht : P.underlying t = some (.slice e)) (hi : P.info? e = some i) (hz : i.zero = some z)
    (hsize : i.size = size) (hby : i.bytes = bytes) (hzs : z.cells.size = size) (hsz : 0 < size)
    (v : Value) (n : Nat) (xs : List Value) (hs : a.eval s = v) (hown : w.ownsRow base e size v n xs)
    (B : Nat) (A : Option Addr) (m c : Nat) (news : List Value) (hx : a.eval x = .slice A m c) (hsl : Sl w B size A m c news) (h1 : ∀ u ∈ news, u.oneCell' = true)
    (h63 : n + m ≤ maxLen) (hbytes : (n + m) * bytes ≤ 140737488355328) (hbase : base ≤ w.heap.size)
    (h : ∀ v' w', w'.ownsRow base e size v' (n + m) (xs ++ news) → w.grownBy w' v.ownBlock → (v'.ownBlock = v.ownBlock ∨ v'.ownBlock = some w.heap.size) → wpList P ops Q rest (a.put o.dst v') w') :
    wpList P ops Q (o :: rest) a w := by
  refine wpList_plain hgd fun K hK => ?_
  obtain ⟨v', w', hr, h2, h3, h5⟩ := run_append_sl (P := P) w base t o.type e i z size bytes ht hi hz hsize hby hzs hsz v n xs hown B A m c news hsl h1 h63 hbytes hbase
  unfold Oper.wp
  simp [execOp, ho, resolve, invoke, builtin, hs, hx, hr, Result.andThen]
  exact hK _ _ (h v' w' h2 h3 h5)

theorem own_form {w : World} {base : Nat} {e : TypeId} {size : Nat} {v : Value} {n : Nat} {xs : List Value} (h : w.ownsRow base e size v n xs) : ∃ A c, v = .slice A n c := by
  rcases h.2 with ⟨rfl, rfl⟩ | ⟨g, cap, cur, rfl, _⟩
  · exact ⟨none, 0, rfl⟩
  · exact ⟨_, _, rfl⟩
theorem own_more {w : World} {base base' : Nat} {e : TypeId} {size : Nat} {v : Value} {n : Nat} {xs : List Value} (h : w.ownsRow base e size v n xs) (hb : base' ≤ base) : w.ownsRow base' e size v n xs := by
  refine ⟨h.1, ?_⟩
  rcases h.2 with h2 | ⟨g, cap, cur, hv, hg, r⟩
  · exact .inl h2
  · exact .inr ⟨g, cap, cur, hv, by omega, r⟩
theorem ints_one (l : List Int) : ∀ u ∈ ints l, u.oneCell' = true := by
  intro u hu
  obtain ⟨k, _, rfl⟩ := List.mem_map.1 hu
  rfl
theorem infoInt : (Tryz.prog.info? 3).map (fun i => (i.zero, i.size, i.bytes)) = some (some (.int .i64 0), 1, 8) := by kernel_rfl

/-- A list of ints in memory of the call's own. -/
def OwnL (base : Nat) (l : List Int) (w : World) (e : Ending) (w' : World) : Prop := ∃ A c, e = .returned (.slice A l.length c) ∧ w'.ownsRow base 3 1 (.slice A l.length c) l.length (ints l) ∧ Below w.heap.size w w'

set_option maxRecDepth 100000 in
theorem Clone_ (l : List Int) (A : Option Addr) (c : Nat) (w : World) (h : Sl w w.heap.size 1 A l.length c (ints l)) (hb : l.length * 8 ≤ 140737488355328) :
    Calls Tryz.prog 99 #[.slice A l.length c] w (OwnL w.heap.size l w) := by
  by_cases hn : 0 < l.length
  · obtain ⟨b, off, rfl, _, hc⟩ := h.at_ hn
    refine (Tryz.slices_Clone_int b off l.length c l w (Nat.le_refl _) hb (fun j hj => ?_)).mono ?_
    · rw [hc j _ (ints_at hj)]
      simp [List.getD, hj]
    · rintro e w' ⟨v', rfl, hown, _, hbw⟩
      obtain ⟨A', c', rfl⟩ := own_form hown
      rw [List.take_of_length_le (Nat.le_refl _)] at hown
      exact ⟨A', c', rfl, hown, hbw⟩
  · have hl : l = [] := List.eq_nil_of_length_eq_zero (by omega)
    subst hl
    cases A with
    | none =>
      refine (Tryz.slices_Clone_int_nil 0 c w).mono ?_
      rintro e w' ⟨rfl, rfl⟩
      exact ⟨none, 0, rfl, World.ownsRow_nil _ _ _ _, Below.refl _ _⟩
    | some ad =>
      refine (Tryz.slices_Clone_int_zero ad c w).mono ?_
      rintro e w' ⟨v', rfl, hown, _, hbw⟩
      obtain ⟨A', c', rfl⟩ := own_form hown
      exact ⟨A', c', rfl, hown, hbw⟩
end Go.Proofs.YtohfofecbdfkgaaGreatDoor

/-
  The walks of copied, drafted, next, Draft, Follow, Withdraw, Print, of the program.
-/
namespace Go.Proofs.YtohfofecbdfkgaaGreatDoor
open Go.RowKit Al

/-- The cells of an alert are a row of the call's own. -/
abbrev ARow (w : World) (base : Nat) (a : Alr) (A : Option Addr) (c : Nat) : Prop := w.ownsRow base 3 1 (.slice A a.cells.length c) a.cells.length (ints a.cells)
/-- An alert with cells in memory of the call's own. -/
def OwnA (a : Alr) (w : World) (e : Ending) (w' : World) : Prop := ∃ A c, e = .returned (a.val A c) ∧ ARow w' w.heap.size a A c ∧ Below w.heap.size w w'

/-- The cells of an alert. -/
@[reducible] def Al.Alr.lst (a : Alr) (A : Option Addr) (c : Nat) : List Value :=
  [.string a.ev, .int .i64 a.ver, .int .i64 a.tm, .int .i64 a.n, .int .i64 a.of, .int .i64 a.grid, .slice A a.cells.length c, .bool a.wd, .int .i64 a.before]
theorem below_setCells {n b : Nat} (hb : n ≤ b) : ∀ (vs : List Value) (o : Nat) (W w : World), Below n W w → Below n W (w.setCells b o vs)
  | [], _, _, _, h => h
  | v :: r, o, W, w, h => below_setCells hb r (o + 1) W _ (h.setCell (by simpa using hb) _)
theorem own_setCells {base e sz n b : Nat} {v : Value} {xs : List Value} (hb : b < base) : ∀ (vs : List Value) (o : Nat) (w : World), w.ownsRow base e sz v n xs → (w.setCells b o vs).ownsRow base e sz v n xs
  | [], _, _, h => h
  | u :: r, o, w, h => own_setCells hb r (o + 1) _ (ownsRow_setCell_below h (by simpa using hb) u)
/-- The end of a function whose result is written to a block of cells. -/
theorem finCells {P : Program} {fn : Func} {R : Ending → World → Prop} {a : Act} {w : World} (b : Nat) (vs : List Value) (v : Value) (hd : a.defers = [])
    (hres : ∀ W : World, (∀ j (hj : j < vs.length), W.cell? ⟨b, j, none⟩ = some vs[j]) → (results fn a.tmps).run P W = .ok v W)
    (his : ∀ j, j < vs.length → (w.cell? ⟨b, j, none⟩).isSome = true) (hR : R (.returned v) (w.setCells b 0 vs)) : bodyPost P fn R .ret a (w.setCells b 0 vs) :=
  bodyPost_ret (hres _ fun j hj => by have := World.cell?_setCells_in b vs 0 w (fun j hj => by rw [Nat.zero_add]; exact his j hj) j hj; rwa [Nat.zero_add] at this) hd hR
theorem lt9 {p : Nat → Prop} (h : p 0 ∧ p 1 ∧ p 2 ∧ p 3 ∧ p 4 ∧ p 5 ∧ p 6 ∧ p 7 ∧ p 8) : ∀ j, j < 9 → p j
  | 0, _ => h.1 | 1, _ => h.2.1 | 2, _ => h.2.2.1 | 3, _ => h.2.2.2.1 | 4, _ => h.2.2.2.2.1 | 5, _ => h.2.2.2.2.2.1 | 6, _ => h.2.2.2.2.2.2.1 | 7, _ => h.2.2.2.2.2.2.2.1 | 8, _ => h.2.2.2.2.2.2.2.2
  | n + 9, h' => absurd h' (by omega)

set_option maxRecDepth 100000 in
theorem copied_ (a : Alr) (A : Option Addr) (c : Nat) (w : World) (h : AIn w a A c) (hb : a.cells.length * 8 ≤ 140737488355328) :
    Calls Tryz.prog 60 #[a.val A c] w (OwnA a w) := by
  have HS := Lib.hid h
  clear h
  go_enter Tryz.func60, Tryz.ntmps60
  go_wp2_with fail
  refine (Clone_ a.cells A c _ (HS.out.below (by (repeat (first | exact Below.refl _ _ | assumption | refine below_drewN ?_ _ | refine Below.drew ?_ | refine Below.setCell ?_ (by first | omega | (simp; done) | (simp; omega)) _ | refine Below.alloc ?_ (by first | omega | (simp; done) | (simp; omega)) _)))).sl hb).mono ?_
  rintro e w1 ⟨A', c', rfl, hown, hbw⟩
  obtain ⟨hc1, hf1⟩ := bcell hbw
  have HB := Lib.hid ((show Below w.heap.size w _ from by (repeat (first | exact Below.refl _ _ | assumption | refine below_drewN ?_ _ | refine Below.drew ?_ | refine Below.setCell ?_ (by first | omega | (simp; done) | (simp; omega)) _ | refine Below.alloc ?_ (by first | omega | (simp; done) | (simp; omega)) _))).trans (hbw.mono (by first | omega | (simp; done) | (simp; omega))))
  have HO := Lib.hid hown
  have hz1 := hbw.size
  simp at hz1
  clear hbw hown
  have hz2 : w.heap.size < w1.heap.size := by omega
  have hz3 : w.heap.size + 1 < w1.heap.size := by omega
  have hset : ∀ u, (w1.setCell ⟨w.heap.size, 6, none⟩ u).cell? ⟨w.heap.size, 6, none⟩ = some u := fun u => World.cell?_setCell_same' _ _ _ (by rw [hc1 _ _ (by simp; omega)]; simp [go_sem])
  go_wp2_with fail
  have hO := HO.out
  simp only [World.alloc, Array.size_push] at hO
  refine finCells (w := w1.setCell ⟨w.heap.size, 6, none⟩ (.slice A' a.cells.length c')) (w.heap.size + 1) (a.lst A' c') (a.val A' c') rfl ?_ ?_ (show OwnA a w _ _ from ⟨A', c', rfl, ?_, ?_⟩)
  · intro W hW
    have r0 := hW 0 (by simp)
    have r1 := hW 1 (by simp)
    have r2 := hW 2 (by simp)
    have r3 := hW 3 (by simp)
    have r4 := hW 4 (by simp)
    have r5 := hW 5 (by simp)
    have r6 := hW 6 (by simp)
    have r7 := hW 7 (by simp)
    have r8 := hW 8 (by simp)
    clear hW
    simp only [List.getElem_cons_zero, List.getElem_cons_succ] at r0 r1 r2 r3 r4 r5 r6 r7 r8
    simp [results, Tryz.results60, go_sem, r0, r1, r2, r3, r4, r5, r6, r7, r8]
  · refine lt9 ?_
    simp [go_sem, hc1]
  · exact own_more (base := w.heap.size + 1 + 1) (own_setCells (by omega) _ _ _ (ownsRow_setCell_below hO (by show w.heap.size < w.heap.size + 1 + 1; omega) _)) (by omega)
  · exact below_setCells (by omega) _ _ _ _ (HB.out.setCell (by simp) _)
end Go.Proofs.YtohfofecbdfkgaaGreatDoor

/-
  The walks of drafted, next, Draft, Follow, Withdraw, Print, of the program.
-/
namespace Go.Proofs.YtohfofecbdfkgaaGreatDoor
open Go.RowKit Al

/-- The zero alert. -/
def Al.zero : Alr := ⟨⟨#[]⟩, 0, 0, 0, 0, 0, [], false, 0⟩
/-- An alert with cells in memory of the call's own, and an error. -/
def OwnT (base : Nat) (a : Alr) (k : Int) (w : World) (e : Ending) (w' : World) : Prop := ∃ A c, e = .returned (.tuple #[a.val A c, .int .i64 k]) ∧ ARow w' base a A c ∧ Below w.heap.size w w'
theorem zero_row (w : World) (base : Nat) : ARow w base Al.zero none 0 := World.ownsRow_nil _ _ _ _
theorem own_in {w : World} {base : Nat} {a : Alr} {A : Option Addr} {c : Nat} (hs : a.ev.size ≤ maxLen) (h : ARow w base a A c) : AIn w a A c := ⟨hs, Sl.of_own h⟩
theorem okA_short {a : Alr} (h : okA a = true) : a.cells.length * 8 ≤ 140737488355328 := by
  have := (okA_good h).many
  omega

set_option maxRecDepth 100000 in
theorem drafted_t (a : Alr) (A : Option Addr) (c : Nat) (w : World) (hk : okA a = true) (h : AIn w a A c) :
    Calls Tryz.prog 55 #[a.val A c] w (OwnT w.heap.size a 0 w) := by
  have HS := Lib.hid h
  have HK := Lib.hid hk
  clear h hk
  go_enter Tryz.func55, Tryz.ntmps55
  go_wp2_with fail
  refine (validA_is a A c _ true HK.out (HS.out.below (by (repeat (first | exact Below.refl _ _ | assumption | refine below_drewN ?_ _ | refine Below.drew ?_ | refine Below.setCell ?_ (by first | omega | (simp; done) | (simp; omega)) _ | refine Below.alloc ?_ (by first | omega | (simp; done) | (simp; omega)) _))))).mono ?_
  rintro e w1 ⟨rfl, hb⟩
  obtain ⟨hcw1, hfw1⟩ := bcell hb
  have Hw1 := Lib.hid ((show Below w.heap.size w _ from (by repeat (first | exact Below.refl _ _ | assumption | refine below_drewN ?_ _ | refine Below.drew ?_ | refine Below.setCell ?_ (by first | omega | (simp; done) | (simp; omega)) _ | refine Below.alloc ?_ (by first | omega | (simp; done) | (simp; omega)) _))).trans (hb.mono (by first | omega | (simp; done) | (simp; omega))))
  have hzw1 := hb.size
  try simp at hzw1
  clear hb
  go_wp2_with fail
  refine (copied_ a A c _ (HS.out.below Hw1.out) (okA_short HK.out)).mono ?_
  rintro e w2 ⟨A', c', rfl, hown, hbw⟩
  obtain ⟨hc2, hf2⟩ := bcell hbw
  have HB := Lib.hid (Hw1.out.trans (hbw.mono Hw1.out.size))
  have HO := Lib.hid hown
  have hz2 := hbw.size
  clear hbw hown
  have hz3 : w.heap.size + 1 < w1.heap.size := by omega
  have hz4 : w.heap.size + 1 < w2.heap.size := by omega
  go_wp2_with fail
  refine finCells (w := w2) (w.heap.size + 1) (a.lst A' c') (.tuple #[a.val A' c', .int .i64 0]) rfl ?_ ?_ (show OwnT w.heap.size a 0 w _ _ from ⟨A', c', rfl, ?_, ?_⟩)
  · intro W hW
    have r0 := hW 0 (by simp)
    have r1 := hW 1 (by simp)
    have r2 := hW 2 (by simp)
    have r3 := hW 3 (by simp)
    have r4 := hW 4 (by simp)
    have r5 := hW 5 (by simp)
    have r6 := hW 6 (by simp)
    have r7 := hW 7 (by simp)
    have r8 := hW 8 (by simp)
    clear hW
    simp only [List.getElem_cons_zero, List.getElem_cons_succ] at r0 r1 r2 r3 r4 r5 r6 r7 r8
    simp [results, Tryz.results55, go_sem, r0, r1, r2, r3, r4, r5, r6, r7, r8]
  · refine lt9 ?_
    simp [go_sem, hcw1, hc2, hz3]
  · exact own_more (base := w1.heap.size) (own_setCells (by omega) _ _ _ HO.out) (by omega)
  · exact below_setCells (by omega) _ _ _ _ HB.out

set_option maxRecDepth 100000 in
theorem drafted_f (a : Alr) (A : Option Addr) (c : Nat) (w : World) (hk : okA a = false) (h : AIn w a A c) :
    Calls Tryz.prog 55 #[a.val A c] w (OwnT w.heap.size Al.zero 101 w) := by
  have HS := Lib.hid h
  have HK := Lib.hid hk
  clear h hk
  go_enter Tryz.func55, Tryz.ntmps55
  go_wp2_with fail
  refine (validA_is a A c _ false HK.out (HS.out.below (by (repeat (first | exact Below.refl _ _ | assumption | refine below_drewN ?_ _ | refine Below.drew ?_ | refine Below.setCell ?_ (by first | omega | (simp; done) | (simp; omega)) _ | refine Below.alloc ?_ (by first | omega | (simp; done) | (simp; omega)) _))))).mono ?_
  rintro e w1 ⟨rfl, hb⟩
  obtain ⟨hcw1, hfw1⟩ := bcell hb
  have Hw1 := Lib.hid ((show Below w.heap.size w _ from (by repeat (first | exact Below.refl _ _ | assumption | refine below_drewN ?_ _ | refine Below.drew ?_ | refine Below.setCell ?_ (by first | omega | (simp; done) | (simp; omega)) _ | refine Below.alloc ?_ (by first | omega | (simp; done) | (simp; omega)) _))).trans (hb.mono (by first | omega | (simp; done) | (simp; omega))))
  have hzw1 := hb.size
  try simp at hzw1
  clear hb
  have hz3 : w.heap.size + 1 < w1.heap.size := by omega
  go_wp2_with fail
  refine finCells (w := w1) (w.heap.size + 1) (Al.zero.lst none 0) (.tuple #[Al.zero.val none 0, .int .i64 101]) rfl ?_ ?_ (show OwnT w.heap.size Al.zero 101 w _ _ from ⟨none, 0, rfl, zero_row _ _, ?_⟩)
  · intro W hW
    have r0 := hW 0 (by simp)
    have r1 := hW 1 (by simp)
    have r2 := hW 2 (by simp)
    have r3 := hW 3 (by simp)
    have r4 := hW 4 (by simp)
    have r5 := hW 5 (by simp)
    have r6 := hW 6 (by simp)
    have r7 := hW 7 (by simp)
    have r8 := hW 8 (by simp)
    clear hW
    simp only [List.getElem_cons_zero, List.getElem_cons_succ] at r0 r1 r2 r3 r4 r5 r6 r7 r8
    simp [results, Tryz.results55, go_sem, r0, r1, r2, r3, r4, r5, r6, r7, r8]
  · refine lt9 ?_
    simp [go_sem, hcw1]
  · exact below_setCells (by omega) _ _ _ _ Hw1.out
end Go.Proofs.YtohfofecbdfkgaaGreatDoor
