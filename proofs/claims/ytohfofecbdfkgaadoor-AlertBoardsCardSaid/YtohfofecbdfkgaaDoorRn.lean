/-
  The walks of the specification's notice and CheckNotice.
-/
import Derived.Test.YtohfofecbdfkgaaDoorRc
namespace Go.Proofs.YtohfofecbdfkgaaDoor
open Go.RowKit Al

/-- The signer ahead of the k-th. -/
def prevS (sg : List (Int × Int)) : Nat → Int
  | 0 => -1
  | k + 1 => match sg[k]? with | some s => s.1 | none => -1
theorem prevS_at {sg : List (Int × Int)} {k : Nat} (h : k < sg.length) : prevS sg (k + 1) = sg[k].1 := by
  show (match sg[k]? with | some s => s.1 | none => (-1 : Int)) = _
  rw [List.getElem?_eq_getElem h]
theorem prevS_pos {sg : List (Int × Int)} {k : Nat} (h : ¬ k = 0) (h2 : k - 1 < sg.length) : prevS sg k = sg[k - 1].1 := by
  obtain ⟨j, rfl⟩ : ∃ j, k = j + 1 := ⟨k - 1, by omega⟩
  exact prevS_at (by simpa using h2)
theorem sigs_out {ks sg : List (Int × Int)} {d last : Int} {k : Nat} (h : k < sg.length) (hl : -1 ≤ last) (hi : inB sg[k].1 0 ((ks.length : Int) - 1) = false) : sigsOk ks d last (sg.drop k) = false := by
  have := inB_false.1 hi
  by_cases h1 : last < sg[k].1
  · exact sigs_f2 h (by omega)
  · exact sigs_f1 h h1
theorem rsigned_is (m x num : Int) (a : Alr) (A : Option Addr) (c : Nat) (b : Bool) (w : World) (hs : sigB m x (digA a) num = b) (h1 : plaus m x = true) (hk : okA a = true) (h : AIn w a A c) :
    Calls Tryd.prog 68 #[.agg #[.int .i64 m, .int .i64 x], a.val A c, .int .i64 num] w fun e w' => e = .returned (.bool b) ∧ Below w.heap.size w w' := hs ▸ rsigned_ m x num a A c w h1 hk h
def NrRel (ks : List (Int × Int)) (n : Ntc) (i : Value) : Prop := ∃ k : Nat, k ≤ n.sg.length ∧ i = .int .i64 k ∧ -1 ≤ prevS n.sg k ∧ (0 < k → 0 ≤ prevS n.sg k) ∧ Hid (sigsOk ks (digA n.a) (prevS n.sg k) (n.sg.drop k) = sigsOk ks (digA n.a) (-1) n.sg)

set_option maxRecDepth 100000 in
set_option maxHeartbeats 4000000 in
theorem rnotice_ (ks : List (Int × Int)) (q : Int) (K : Option Addr) (kc : Nat) (n : Ntc) (A : Option Addr) (c : Nat) (S : Option Addr) (sc : Nat) (w : World) (hr : Rin w ks K kc) (ho : rollOk ks q = true) (hn : NIn w n A c S sc) :
    Calls Tryd.prog 47 #[rollV ks K kc q, n.val A c S sc] w fun e w' => e = .returned (.int .i64 (noticeE ks q n)) ∧ Below w.heap.size w w' := by
  have hl1 : ks.length ≤ maxLen := Nat.le_trans hr.cap hr.max
  have hl2 : n.sg.length ≤ maxLen := Nat.le_trans hn.sl.cap hn.sl.max
  unfold maxLen at hl1 hl2
  have HR := Lib.hid hr
  have HN := Lib.hid hn
  have HO := Lib.hid ho
  clear hr hn ho
  by_cases hk : okA n.a = true
  · have HK := Lib.hid hk
    clear hk
    go_enter Tryd.func47, Tryd.ntmps47
    go_wp2_with fail
    refine (rcheckA_is n.a A c _ 0 (errA_t HK.out) (HN.out.al.below (by (repeat (first | exact Below.refl _ _ | assumption | refine below_drewN ?_ _ | refine Below.drew ?_ | refine Below.setCell ?_ (by first | omega | (simp; done) | (simp; omega)) _ | refine Below.alloc ?_ (by first | omega | (simp; done) | (simp; omega)) _))))).mono ?_
    rintro e w1 ⟨rfl, hb⟩
    obtain ⟨hcw1, hfw1⟩ := bcell hb
    have Hw1 := Lib.hid ((show Below w.heap.size w _ from (by repeat (first | exact Below.refl _ _ | assumption | refine below_drewN ?_ _ | refine Below.drew ?_ | refine Below.setCell ?_ (by first | omega | (simp; done) | (simp; omega)) _ | refine Below.alloc ?_ (by first | omega | (simp; done) | (simp; omega)) _))).trans (hb.mono (by first | omega | (simp; done) | (simp; omega))))
    have hzw1 := hb.size
    try simp at hzw1
    clear hb
    have hz3 : w.heap.size + 1 < w1.heap.size := by omega
    have hz4 : w.heap.size < w1.heap.size := by omega
    go_wp2_with fail
    go_loopw [6] (fun i wr => NrRel ks n i ∧ Below w1.heap.size w1 wr) (fun i _ => n.sg.length - (intOf i).toNat)
    case atStart => exact ⟨⟨0, Nat.zero_le _, rfl, by show (-1 : Int) ≤ -1; omega, fun h => absurd h (by omega), rfl⟩, (by repeat (first | exact Below.refl _ _ | assumption | refine below_drewN ?_ _ | refine Below.drew ?_ | refine Below.setCell ?_ (by first | omega | (simp; done) | (simp; omega)) _ | refine Below.alloc ?_ (by first | omega | (simp; done) | (simp; omega)) _))⟩
    case round =>
      obtain ⟨⟨k, hkl, rfl, hla, hlb, hp⟩, hbw⟩ := hrel
      obtain ⟨hcw, hfw⟩ := bcell hbw
      have HB := Lib.hid hbw
      have hz := hbw.size
      have hWB := Lib.hid (Hw1.out.trans (hbw.mono Hw1.out.size))
      clear hbw
      by_cases hlt : k < n.sg.length
      · obtain ⟨sb, so, rfl, hsb, hs1, hs2⟩ := (HN.out.below hWB.out).sl.key_at hlt
        have hlt' : (k : Int) < (n.sg.length : Int) := by omega
        have hsb1 : sb < wr.heap.size + 1 := by omega
        have hz7 : w.heap.size + 1 < wr.heap.size := by omega
        have hz8 : w.heap.size < wr.heap.size := by omega
        have hz9 : w.heap.size + 1 < wr.heap.size + 1 := by omega
        have hz10 : w.heap.size < wr.heap.size + 1 := by omega
        by_cases hi : inB n.sg[k].1 0 ((ks.length : Int) - 1) = true
        · have bi := inB_true.1 hi
          have HI := Lib.hid hi
          clear hi
          have hti : n.sg[k].1.toNat < ks.length := by omega
          have htz : ((n.sg[k].1.toNat : Nat) : Int) = n.sg[k].1 := by omega
          have hs0 : 0 ≤ n.sg[k].1 := by omega
          have h2 : n.sg[k].1 < ks.length := by omega
          by_cases hk0 : k = 0
          · have hk0' : decide (0 < k) = false := decide_eq_false (by omega)
            have h1 : prevS n.sg k < n.sg[k].1 := by subst hk0; show (-1 : Int) < _; omega
            clear hk0
            obtain ⟨kb, ko, rfl, hkb, hk1, hk2⟩ := (HR.out.below hWB.out).key_at hti
            have hkb1 : kb < wr.heap.size + 1 := by omega
            have hpl := Lib.hid (rollOk_key HO.out hti)
            by_cases h3 : sigB ks[n.sg[k].1.toNat].1 ks[n.sg[k].1.toNat].2 (digA n.a) n.sg[k].2 = true
            · have H3 := Lib.hid h3
              have HX := Lib.hid (sigs_go (ks := ks) (d := digA n.a) hlt h1 h2 (by rw [sigK_at hti]; exact h3))
              clear h3
              go_wp2_with fail
              refine wp_region_bw2 (by kernel_rfl) (by kernel_rfl) (fun hbwc => ?_)
              repeat (go_big_quiet_step ((first | (go_at_call 44; exact bwSame (In_is _ _ _ _ HI.out _)) | (go_at_call 68; exact bwCall (rsigned_is _ _ _ n.a A c true _ H3.out hpl.out HK.out (AIn.below (AIn.below (HN.out.below hWB.out).al (by (repeat (first | exact Below.refl _ _ | assumption | refine below_drewN ?_ _ | refine Below.drew ?_ | refine Below.setCell ?_ (by first | omega | (simp; done) | (simp; omega)) _ | refine Below.alloc ?_ (by first | omega | (simp; done) | (simp; omega)) _)))) (BW.below _)))))))
              refine wpQuiet_nil ?_
              clear hbwc
              intro w3 hb
              have Hw3 := Lib.hid (HB.out.trans (Below.trans (by (repeat (first | exact Below.refl _ _ | assumption | refine below_drewN ?_ _ | refine Below.drew ?_ | refine Below.setCell ?_ (by first | omega | (simp; done) | (simp; omega)) _ | refine Below.alloc ?_ (by first | omega | (simp; done) | (simp; omega)) _))) (hb.mono (by simp; omega))))
              have HW3 := Lib.hid (hWB.out.trans (Below.trans (by (repeat (first | exact Below.refl _ _ | assumption | refine below_drewN ?_ _ | refine Below.drew ?_ | refine Below.setCell ?_ (by first | omega | (simp; done) | (simp; omega)) _ | refine Below.alloc ?_ (by first | omega | (simp; done) | (simp; omega)) _))) (hb.mono (by simp; omega))))
              obtain ⟨hcw3, hfw3⟩ := bcell hb
              have hz11 := hb.size
              simp at hz11
              have hz12 : wr.heap.size < w3.heap.size := by omega
              clear hb
              go_wp2_with fail
              go_roundw
              case rel => exact ⟨⟨k + 1, by omega, by go_num, by rw [prevS_at hlt]; omega, fun _ => by rw [prevS_at hlt]; omega, by show _ = _; rw [prevS_at hlt, ← HX.out, hp.out]⟩, Hw3.out⟩
              case measure => simp [intOf]; omega
            · have h3' : sigB ks[n.sg[k].1.toNat].1 ks[n.sg[k].1.toNat].2 (digA n.a) n.sg[k].2 = false := by simpa using h3
              have H3 := Lib.hid h3'
              have HF := Lib.hid (noticeE_sig (ks := ks) (q := q) HK.out (by rw [← hp.out]; exact sigs_f3 hlt (by rw [sigK_at hti]; exact h3')))
              clear h3 h3'
              go_wp2_with fail
              refine wp_region_bw2 (by kernel_rfl) (by kernel_rfl) (fun hbwc => ?_)
              repeat (go_big_quiet_step ((first | (go_at_call 44; exact bwSame (In_is _ _ _ _ HI.out _)) | (go_at_call 68; exact bwCall (rsigned_is _ _ _ n.a A c false _ H3.out hpl.out HK.out (AIn.below (AIn.below (HN.out.below hWB.out).al (by (repeat (first | exact Below.refl _ _ | assumption | refine below_drewN ?_ _ | refine Below.drew ?_ | refine Below.setCell ?_ (by first | omega | (simp; done) | (simp; omega)) _ | refine Below.alloc ?_ (by first | omega | (simp; done) | (simp; omega)) _)))) (BW.below _)))))))
              refine wpQuiet_nil ?_
              clear hbwc
              intro w3 hb
              have Hw3 := Lib.hid (HB.out.trans (Below.trans (by (repeat (first | exact Below.refl _ _ | assumption | refine below_drewN ?_ _ | refine Below.drew ?_ | refine Below.setCell ?_ (by first | omega | (simp; done) | (simp; omega)) _ | refine Below.alloc ?_ (by first | omega | (simp; done) | (simp; omega)) _))) (hb.mono (by simp; omega))))
              have HW3 := Lib.hid (hWB.out.trans (Below.trans (by (repeat (first | exact Below.refl _ _ | assumption | refine below_drewN ?_ _ | refine Below.drew ?_ | refine Below.setCell ?_ (by first | omega | (simp; done) | (simp; omega)) _ | refine Below.alloc ?_ (by first | omega | (simp; done) | (simp; omega)) _))) (hb.mono (by simp; omega))))
              obtain ⟨hcw3, hfw3⟩ := bcell hb
              have hz11 := hb.size
              simp at hz11
              have hz12 : wr.heap.size < w3.heap.size := by omega
              clear hb
              go_wp2_with fail
              go_ret
              exact ⟨ret_int (by rw [HF.out]), HW3.out⟩
          · have hk0' : decide (0 < k) = true := decide_eq_true (by omega)
            have hk1n : k - 1 < n.sg.length := by omega
            have hkm : (0 : Int) ≤ (k : Int) - 1 := by omega
            have hkm2 : (k : Int) - 1 < (n.sg.length : Int) := by omega
            have hkm3 : ((k : Int) - 1).toNat = k - 1 := by omega
            have hpv := prevS_pos hk0 hk1n
            clear hk0
            obtain ⟨_, _, he, _, hp1, hp2⟩ := (HN.out.below hWB.out).sl.key_at hk1n
            cases he
            by_cases h1 : prevS n.sg k < n.sg[k].1
            · have h1' : decide (n.sg[k].1 ≤ n.sg[k - 1].1) = false := decide_eq_false (by omega)
              obtain ⟨kb, ko, rfl, hkb, hk1, hk2⟩ := (HR.out.below hWB.out).key_at hti
              have hkb1 : kb < wr.heap.size + 1 := by omega
              have hpl := Lib.hid (rollOk_key HO.out hti)
              by_cases h3 : sigB ks[n.sg[k].1.toNat].1 ks[n.sg[k].1.toNat].2 (digA n.a) n.sg[k].2 = true
              · have H3 := Lib.hid h3
                have HX := Lib.hid (sigs_go (ks := ks) (d := digA n.a) hlt h1 h2 (by rw [sigK_at hti]; exact h3))
                clear h3
                go_wp2_with fail
                refine wp_region_bw2 (by kernel_rfl) (by kernel_rfl) (fun hbwc => ?_)
                repeat (go_big_quiet_step ((first | (go_at_call 44; exact bwSame (In_is _ _ _ _ HI.out _)) | (go_at_call 68; exact bwCall (rsigned_is _ _ _ n.a A c true _ H3.out hpl.out HK.out (AIn.below (AIn.below (HN.out.below hWB.out).al (by (repeat (first | exact Below.refl _ _ | assumption | refine below_drewN ?_ _ | refine Below.drew ?_ | refine Below.setCell ?_ (by first | omega | (simp; done) | (simp; omega)) _ | refine Below.alloc ?_ (by first | omega | (simp; done) | (simp; omega)) _)))) (BW.below _)))))))
                refine wpQuiet_nil ?_
                clear hbwc
                intro w3 hb
                have Hw3 := Lib.hid (HB.out.trans (Below.trans (by (repeat (first | exact Below.refl _ _ | assumption | refine below_drewN ?_ _ | refine Below.drew ?_ | refine Below.setCell ?_ (by first | omega | (simp; done) | (simp; omega)) _ | refine Below.alloc ?_ (by first | omega | (simp; done) | (simp; omega)) _))) (hb.mono (by simp; omega))))
                have HW3 := Lib.hid (hWB.out.trans (Below.trans (by (repeat (first | exact Below.refl _ _ | assumption | refine below_drewN ?_ _ | refine Below.drew ?_ | refine Below.setCell ?_ (by first | omega | (simp; done) | (simp; omega)) _ | refine Below.alloc ?_ (by first | omega | (simp; done) | (simp; omega)) _))) (hb.mono (by simp; omega))))
                obtain ⟨hcw3, hfw3⟩ := bcell hb
                have hz11 := hb.size
                simp at hz11
                have hz12 : wr.heap.size < w3.heap.size := by omega
                clear hb
                go_wp2_with fail
                go_roundw
                case rel => exact ⟨⟨k + 1, by omega, by go_num, by rw [prevS_at hlt]; omega, fun _ => by rw [prevS_at hlt]; omega, by show _ = _; rw [prevS_at hlt, ← HX.out, hp.out]⟩, Hw3.out⟩
                case measure => simp [intOf]; omega
              · have h3' : sigB ks[n.sg[k].1.toNat].1 ks[n.sg[k].1.toNat].2 (digA n.a) n.sg[k].2 = false := by simpa using h3
                have H3 := Lib.hid h3'
                have HF := Lib.hid (noticeE_sig (ks := ks) (q := q) HK.out (by rw [← hp.out]; exact sigs_f3 hlt (by rw [sigK_at hti]; exact h3')))
                clear h3 h3'
                go_wp2_with fail
                refine wp_region_bw2 (by kernel_rfl) (by kernel_rfl) (fun hbwc => ?_)
                repeat (go_big_quiet_step ((first | (go_at_call 44; exact bwSame (In_is _ _ _ _ HI.out _)) | (go_at_call 68; exact bwCall (rsigned_is _ _ _ n.a A c false _ H3.out hpl.out HK.out (AIn.below (AIn.below (HN.out.below hWB.out).al (by (repeat (first | exact Below.refl _ _ | assumption | refine below_drewN ?_ _ | refine Below.drew ?_ | refine Below.setCell ?_ (by first | omega | (simp; done) | (simp; omega)) _ | refine Below.alloc ?_ (by first | omega | (simp; done) | (simp; omega)) _)))) (BW.below _)))))))
                refine wpQuiet_nil ?_
                clear hbwc
                intro w3 hb
                have Hw3 := Lib.hid (HB.out.trans (Below.trans (by (repeat (first | exact Below.refl _ _ | assumption | refine below_drewN ?_ _ | refine Below.drew ?_ | refine Below.setCell ?_ (by first | omega | (simp; done) | (simp; omega)) _ | refine Below.alloc ?_ (by first | omega | (simp; done) | (simp; omega)) _))) (hb.mono (by simp; omega))))
                have HW3 := Lib.hid (hWB.out.trans (Below.trans (by (repeat (first | exact Below.refl _ _ | assumption | refine below_drewN ?_ _ | refine Below.drew ?_ | refine Below.setCell ?_ (by first | omega | (simp; done) | (simp; omega)) _ | refine Below.alloc ?_ (by first | omega | (simp; done) | (simp; omega)) _))) (hb.mono (by simp; omega))))
                obtain ⟨hcw3, hfw3⟩ := bcell hb
                have hz11 := hb.size
                simp at hz11
                have hz12 : wr.heap.size < w3.heap.size := by omega
                clear hb
                go_wp2_with fail
                go_ret
                exact ⟨ret_int (by rw [HF.out]), HW3.out⟩
            · have h1' : decide (n.sg[k].1 ≤ n.sg[k - 1].1) = true := decide_eq_true (by omega)
              have HF := Lib.hid (noticeE_sig (ks := ks) (q := q) HK.out (by rw [← hp.out]; exact sigs_f1 hlt h1))
              go_wp2_with fail
              refine wp_region_bw2 (by kernel_rfl) (by kernel_rfl) (fun hbwc => ?_)
              repeat (go_big_quiet_step ((go_at_call 44; exact bwSame (In_is _ _ _ _ HI.out _))))
              refine wpQuiet_nil ?_
              clear hbwc
              intro w3 hb
              have Hw3 := Lib.hid (HB.out.trans (Below.trans (by (repeat (first | exact Below.refl _ _ | assumption | refine below_drewN ?_ _ | refine Below.drew ?_ | refine Below.setCell ?_ (by first | omega | (simp; done) | (simp; omega)) _ | refine Below.alloc ?_ (by first | omega | (simp; done) | (simp; omega)) _))) (hb.mono (by simp; omega))))
              have HW3 := Lib.hid (hWB.out.trans (Below.trans (by (repeat (first | exact Below.refl _ _ | assumption | refine below_drewN ?_ _ | refine Below.drew ?_ | refine Below.setCell ?_ (by first | omega | (simp; done) | (simp; omega)) _ | refine Below.alloc ?_ (by first | omega | (simp; done) | (simp; omega)) _))) (hb.mono (by simp; omega))))
              obtain ⟨hcw3, hfw3⟩ := bcell hb
              have hz11 := hb.size
              simp at hz11
              have hz12 : wr.heap.size < w3.heap.size := by omega
              clear hb
              go_wp2_with fail
              go_ret
              exact ⟨ret_int (by rw [HF.out]), HW3.out⟩
        · have hi' : inB n.sg[k].1 0 ((ks.length : Int) - 1) = false := by simpa using hi
          have HI := Lib.hid hi'
          have HF := Lib.hid (noticeE_sig (ks := ks) (q := q) HK.out (by rw [← hp.out]; exact sigs_out hlt hla hi'))
          clear hi hi'
          go_wp2_with fail
          refine wp_region_bw2 (by kernel_rfl) (by kernel_rfl) (fun hbwc => ?_)
          repeat (go_big_quiet_step ((go_at_call 44; exact bwSame (In_is _ _ _ _ HI.out _))))
          refine wpQuiet_nil ?_
          clear hbwc
          intro w3 hb
          have Hw3 := Lib.hid (HB.out.trans (Below.trans (by (repeat (first | exact Below.refl _ _ | assumption | refine below_drewN ?_ _ | refine Below.drew ?_ | refine Below.setCell ?_ (by first | omega | (simp; done) | (simp; omega)) _ | refine Below.alloc ?_ (by first | omega | (simp; done) | (simp; omega)) _))) (hb.mono (by simp; omega))))
          have HW3 := Lib.hid (hWB.out.trans (Below.trans (by (repeat (first | exact Below.refl _ _ | assumption | refine below_drewN ?_ _ | refine Below.drew ?_ | refine Below.setCell ?_ (by first | omega | (simp; done) | (simp; omega)) _ | refine Below.alloc ?_ (by first | omega | (simp; done) | (simp; omega)) _))) (hb.mono (by simp; omega))))
          obtain ⟨hcw3, hfw3⟩ := bcell hb
          have hz11 := hb.size
          simp at hz11
          have hz12 : wr.heap.size < w3.heap.size := by omega
          clear hb
          go_wp2_with fail
          go_ret
          exact ⟨ret_int (by rw [HF.out]), HW3.out⟩
      · obtain rfl : k = n.sg.length := by omega
        have HE : Hid (sigsOk ks (digA n.a) (-1) n.sg = true) := by
          show _ = _
          rw [← hp.out, sigsOk_end]
        have hz7 : w.heap.size + 1 < wr.heap.size := by omega
        have hz8 : w.heap.size < wr.heap.size := by omega
        by_cases h3 : (n.sg.length : Int) < q
        · have HF := Lib.hid (noticeE_few (ks := ks) HK.out HE.out h3)
          go_wp2_with fail
          go_ret
          exact ⟨ret_int (by rw [HF.out]), hWB.out⟩
        · have HF := Lib.hid (noticeE_ok (ks := ks) HK.out HE.out h3)
          go_wp2_with fail
          go_ret
          exact ⟨ret_int (by rw [HF.out]), hWB.out⟩
  · have hk' : okA n.a = false := by simpa using hk
    have HK := Lib.hid hk'
    have HF := Lib.hid (noticeE_bad (ks := ks) (q := q) hk')
    clear hk hk'
    go_enter Tryd.func47, Tryd.ntmps47
    go_wp2_with fail
    refine (rcheckA_is n.a A c _ 101 (errA_f HK.out) (HN.out.al.below (by (repeat (first | exact Below.refl _ _ | assumption | refine below_drewN ?_ _ | refine Below.drew ?_ | refine Below.setCell ?_ (by first | omega | (simp; done) | (simp; omega)) _ | refine Below.alloc ?_ (by first | omega | (simp; done) | (simp; omega)) _))))).mono ?_
    rintro e w1 ⟨rfl, hb⟩
    obtain ⟨hcw1, hfw1⟩ := bcell hb
    have Hw1 := Lib.hid ((show Below w.heap.size w _ from (by repeat (first | exact Below.refl _ _ | assumption | refine below_drewN ?_ _ | refine Below.drew ?_ | refine Below.setCell ?_ (by first | omega | (simp; done) | (simp; omega)) _ | refine Below.alloc ?_ (by first | omega | (simp; done) | (simp; omega)) _))).trans (hb.mono (by first | omega | (simp; done) | (simp; omega))))
    have hzw1 := hb.size
    try simp at hzw1
    clear hb
    go_wp2_with fail
    go_ret
    exact ⟨ret_int (by rw [HF.out]), Hw1.out⟩

theorem rCheckRoll_is (ks : List (Int × Int)) (q : Int) (A : Option Addr) (c : Nat) (w : World) (v : Int) (hv : errA (rollOk ks q) 104 = v) (h : Rin w ks A c) :
    Calls Tryd.prog 10 #[rollV ks A c q] w fun e w' => e = .returned (.int .i64 v) ∧ Below w.heap.size w w' := hv ▸ rCheckRoll_ ks q A c w h

set_option maxRecDepth 100000 in
set_option maxHeartbeats 1000000 in
theorem rCheckNotice_ (ks : List (Int × Int)) (q : Int) (K : Option Addr) (kc : Nat) (n : Ntc) (A : Option Addr) (c : Nat) (S : Option Addr) (sc : Nat) (w : World) (hr : Rin w ks K kc) (hn : NIn w n A c S sc) :
    Calls Tryd.prog 12 #[rollV ks K kc q, n.val A c S sc] w fun e w' => e = .returned (.int .i64 (checkE ks q n)) ∧ Below w.heap.size w w' := by
  have HR := Lib.hid hr
  have HN := Lib.hid hn
  clear hr hn
  by_cases ho : rollOk ks q = true
  · have HO := Lib.hid ho
    clear ho
    go_enter Tryd.func12, Tryd.ntmps12
    go_wp2_with fail
    refine (rCheckRoll_is ks q K kc _ 0 (errA_t HO.out) (HR.out.below (by (repeat (first | exact Below.refl _ _ | assumption | refine below_drewN ?_ _ | refine Below.drew ?_ | refine Below.setCell ?_ (by first | omega | (simp; done) | (simp; omega)) _ | refine Below.alloc ?_ (by first | omega | (simp; done) | (simp; omega)) _))))).mono ?_
    rintro e w1 ⟨rfl, hb⟩
    obtain ⟨hcw1, hfw1⟩ := bcell hb
    have Hw1 := Lib.hid ((show Below w.heap.size w _ from (by repeat (first | exact Below.refl _ _ | assumption | refine below_drewN ?_ _ | refine Below.drew ?_ | refine Below.setCell ?_ (by first | omega | (simp; done) | (simp; omega)) _ | refine Below.alloc ?_ (by first | omega | (simp; done) | (simp; omega)) _))).trans (hb.mono (by first | omega | (simp; done) | (simp; omega))))
    have hzw1 := hb.size
    try simp at hzw1
    clear hb
    have hz3 : w.heap.size + 1 < w1.heap.size := by omega
    have hz4 : w.heap.size < w1.heap.size := by omega
    go_wp2_with fail
    refine (rnotice_ ks q K kc n A c S sc _ (HR.out.below Hw1.out) HO.out (HN.out.below Hw1.out)).mono ?_
    rintro e w2 ⟨rfl, hb⟩
    obtain ⟨hcw2, hfw2⟩ := bcell hb
    have Hw2 := Lib.hid ((show Below w.heap.size w _ from (by repeat (first | exact Below.refl _ _ | exact (Hw1).out | refine below_drewN ?_ _ | refine Below.drew ?_ | refine Below.setCell ?_ (by first | omega | (simp; done) | (simp; omega)) _ | refine Below.alloc ?_ (by first | omega | (simp; done) | (simp; omega)) _))).trans (hb.mono (by first | omega | (simp; done) | (simp; omega))))
    have hzw2 := hb.size
    try simp at hzw2
    clear hb
    go_wp2_with fail
    go_ret
    exact ⟨ret_int (checkE_t HO.out).symm, Hw2.out⟩
  · have ho' : rollOk ks q = false := by simpa using ho
    have HO := Lib.hid ho'
    clear ho ho'
    go_enter Tryd.func12, Tryd.ntmps12
    go_wp2_with fail
    refine (rCheckRoll_is ks q K kc _ 104 (errA_f HO.out) (HR.out.below (by (repeat (first | exact Below.refl _ _ | assumption | refine below_drewN ?_ _ | refine Below.drew ?_ | refine Below.setCell ?_ (by first | omega | (simp; done) | (simp; omega)) _ | refine Below.alloc ?_ (by first | omega | (simp; done) | (simp; omega)) _))))).mono ?_
    rintro e w1 ⟨rfl, hb⟩
    obtain ⟨hcw1, hfw1⟩ := bcell hb
    have Hw1 := Lib.hid ((show Below w.heap.size w _ from (by repeat (first | exact Below.refl _ _ | assumption | refine below_drewN ?_ _ | refine Below.drew ?_ | refine Below.setCell ?_ (by first | omega | (simp; done) | (simp; omega)) _ | refine Below.alloc ?_ (by first | omega | (simp; done) | (simp; omega)) _))).trans (hb.mono (by first | omega | (simp; done) | (simp; omega))))
    have hzw1 := hb.size
    try simp at hzw1
    clear hb
    have hz3 : w.heap.size + 1 < w1.heap.size := by omega
    have hz4 : w.heap.size < w1.heap.size := by omega
    go_wp2_with fail
    go_ret
    exact ⟨ret_int (checkE_f HO.out).symm, Hw1.out⟩
end Go.Proofs.YtohfofecbdfkgaaDoor
