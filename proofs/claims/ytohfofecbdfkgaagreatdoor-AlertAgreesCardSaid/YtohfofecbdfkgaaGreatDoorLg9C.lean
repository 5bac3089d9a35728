/-
  AlertAgrees: for every roll and notices: the notices of a board, of which the first 64 were posted, settle as its Force says, and have no forks; and the chapter's examples hold. No condition beyond the row's own (the listed tables of the library, tied by the card).
-/
import Derived.Test.YtohfofecbdfkgaaGreatDoorU10
import Derived.Test.YtohfofecbdfkgaaGreatDoorU15
import Derived.Test.YtohfofecbdfkgaaGreatDoorV01Lg9
import Derived.Test.YtohfofecbdfkgaaGreatDoorV02Lg9
import Derived.Test.YtohfofecbdfkgaaGreatDoorU30
import Derived.Test.YtohfofecbdfkgaaGreatDoorU31
import Derived.Deep.RegionHeld3
namespace Go.Proofs.YtohfofecbdfkgaaGreatDoor
open Go.RowKit Go.ChangeShapes Go.WideShapes Go.ChangeAt Al

def AgRel (w W0 : World) (b : Nat) (ks : List (Int × Int)) (q : Int) (n : Nat) (i : Value) (wr : World) : Prop :=
  ∃ (k : Nat) (ns : List Ntc) (S : Nat → Prop), k ≤ n ∧ k ≤ 64 ∧ i = .int .i64 k ∧ Hid (Bd wr S b ks q ns) ∧ Hid (∀ i, S i → w.heap.size + 1 ≤ i ∧ i < wr.heap.size) ∧ Hid (Chained ns) ∧ Hid (∀ z ∈ ns, noticeE ks q z = 0) ∧ ns.length ≤ k ∧ Hid (Below (w.heap.size + 1) W0 wr)
theorem digest_tv (a : Alr) (A : Option Addr) (c : Nat) (d : Int) (w : World) (hd : digA a = d) (hk : okA a = true) (h : AIn w a A c) (hr : Rdy w) :
    Calls Tryz.prog 30 #[a.val A c] w fun e w' => e = .returned (.tuple #[.int .i64 d, .int .i64 0]) ∧ Below w.heap.size w w' := hd ▸ Digest_t a A c w hk h hr
set_option maxRecDepth 100000 in
set_option maxHeartbeats 8000000 in
theorem lagrees_ (ks : List (Int × Int)) (q : Int) (K : Option Addr) (kc : Nat) (L : List It) (N : Option Addr) (nc : Nat) (w : World) (hr0 : Rin w ks K kc) (hL : Sl w w.heap.size 10 N L.length nc (itCells L)) (hI : ∀ x ∈ L, NIn w x.n x.A x.c x.S x.sc) (_hlen : L.length ≤ 1152921504606846976) (hr : Rdy w) :
    Calls Tryz.prog 7 #[rollV ks K kc q, .slice N L.length nc] w fun e w' => e = .returned (.bool true) ∧ Below w.heap.size w w' := by
  have HR0 : Hid (∀ W, Below w.heap.size w W → Rin W ks K kc) := fun W hW => hr0.below hW
  have HL := Lib.hid hL
  have HI := Lib.hid hI
  have HR : Hid (∀ W, Below w.heap.size w W → Rdy W) := fun W hW => hr.below hW
  clear hr0 hL hI hr
  by_cases ho : rollOk ks q = true
  · have HO := Lib.hid ho
    have HSE : Hid (∀ M : List It, M.length ≤ 64 → settleR ks q M = (settleS ks q M, 0)) := fun M hM => by unfold settleR manyE; rw [ho]; simp; omega
    have HFE : Hid (∀ M : List It, M.length ≤ 64 → forksR ks q M = (forksS ks q M, 0)) := fun M hM => by unfold forksR manyE; rw [ho]; simp; omega
    have HFN : Hid (∀ M : List It, M.length ≤ 64 → (∀ x ∈ M, noticeE ks q x.n = 0) → Chained (M.map (·.n)) → forksR ks q M = ([], 0)) := fun M hM h1 h2 => by rw [HFE.out M hM, agree_forks h1 h2]
    clear ho
    go_enter Tryz.func7, Tryz.ntmps7
    go_wp2_with fail
    refine (newBoard_t ks q K kc _ (HR0.out _ (by (repeat (first | exact Below.refl _ _ | assumption | refine below_drewN ?_ _ | refine Below.drew ?_ | refine Below.setCell ?_ (by first | omega | (simp; done) | (simp; omega)) _ | refine Below.alloc ?_ (by first | omega | (simp; done) | (simp; omega)) _)))) HO.out).mono ?_
    rintro e w1 ⟨b, rfl, hbg, hBd, hb⟩
    obtain ⟨W0, hW0⟩ : ∃ W0, W0 = w.alloc (.cells #[.slice K ks.length kc, .int .i64 q] 24) := ⟨_, rfl⟩
    have HBW0 : Hid (Below w.heap.size w W0) := by show Below _ _ _; rw [hW0]; (repeat (first | exact Below.refl _ _ | assumption | refine below_drewN ?_ _ | refine Below.drew ?_ | refine Below.setCell ?_ (by first | omega | (simp; done) | (simp; omega)) _ | refine Below.alloc ?_ (by first | omega | (simp; done) | (simp; omega)) _))
    have c0 : W0.cell? ⟨w.heap.size, 0, none⟩ = some (.slice K ks.length kc) := by rw [hW0]; simp [go_sem]
    have c1 : W0.cell? ⟨w.heap.size, 1, none⟩ = some (.int .i64 q) := by rw [hW0]; simp [go_sem]
    have zW : W0.heap.size = w.heap.size + 1 := by rw [hW0]; simp
    rw [← hW0] at hb hbg hBd
    have Hx1 : Hid (Below (w.heap.size + 1) W0 w1) := hb.mono (by omega)
    have hz1 := hb.size
    have HBD := Lib.hid (hBd.cut.mono (S' := fun i => w.heap.size + 1 ≤ i ∧ i < w1.heap.size) (fun i hi => by rw [zW] at hi; exact hi))
    have HC := Lib.hid (And.intro c0 c1)
    clear hb hBd c0 c1 hW0
    go_wp2_with fail
    go_loopw [7] (fun i wr => AgRel w W0 b ks q L.length i wr) (fun i _ => L.length - (Go.RowKit.intOf i).toNat)
    case atStart => exact ⟨0, [], _, Nat.zero_le _, by omega, rfl, HBD, Lib.hid (fun i hi => hi), Lib.hid Chained.nil, Lib.hid (fun z hz => (nomatch hz)), Nat.zero_le _, Hx1⟩
    case round =>
      obtain ⟨k, ns, S, hk, hk64, rfl, HB, HS, HCN, HV, hnl, HW⟩ := hrel
      have hsz := HW.out.size
      have HWw : Hid (Below w.heap.size w wr) := HBW0.out.trans (HW.out.mono (by omega))
      have r0 := (HW.out.cell (p := ⟨w.heap.size, 0, none⟩) (Nat.lt_succ_self _)).trans HC.out.1
      have r1 := (HW.out.cell (p := ⟨w.heap.size, 1, none⟩) (Nat.lt_succ_self _)).trans HC.out.2
      have lwr : w.heap.size < wr.heap.size := by omega
      by_cases hlt : k < L.length ∧ k < 64
      · obtain ⟨hlt, hk6⟩ := hlt
        obtain ⟨nb, off, rfl, hnb, y0, y1, y2, y3, y4, y5, y6, y7, y8, y9⟩ := (HL.out.below HWw.out).it_at hlt
        have i0' : (0 : Int) ≤ (k : Int) := by omega
        have i1' : (k : Int) < (L.length : Int) := by omega
        have i2' : (k : Int) < 64 := by omega
        have hb2 : nb < wr.heap.size := by omega
        have HN := Lib.hid (HI.out L[k] (List.getElem_mem hlt))
        obtain ⟨x, hx⟩ : ∃ x, x = L[k] := ⟨_, rfl⟩
        rw [← hx] at y0 y1 y2 y3 y4 y5 y6 y7 y8 y9 HN
        clear hx
        obtain ⟨pe, hpe⟩ : ∃ v, postE ks q ns x.n = v := ⟨_, rfl⟩
        obtain ⟨ns2, hns2⟩ : ∃ v, postN ks q ns x.n = v := ⟨_, rfl⟩
        have HPE := Lib.hid hpe
        have HNS := Lib.hid hns2
        have HC2 : Hid (Chained ns2) := by rw [← hns2]; exact HCN.out.post x.n
        have HV2 : Hid (∀ z ∈ ns2, noticeE ks q z = 0) := by rw [← hns2]; exact post_valid HV.out x.n
        have hnl2 : ns2.length ≤ k + 1 := by rw [← hns2]; have := post_len ks q ns x.n; omega
        clear hpe hns2
        go_wp2_with fail
        refine (PostS S (w.heap.size + 1) b ks q ns x.n x.A x.c x.S x.sc pe ns2 _ HPE.out HNS.out (fun i hi => (HS.out i hi).1) (HB.out.below (by (repeat (first | exact Below.refl _ _ | assumption | refine below_drewN ?_ _ | refine Below.drew ?_ | refine Below.setCell ?_ (by first | omega | (simp; done) | (simp; omega)) _ | refine Below.alloc ?_ (by first | omega | (simp; done) | (simp; omega)) _)))) ((HN.out.below HWw.out).below (by (repeat (first | exact Below.refl _ _ | assumption | refine below_drewN ?_ _ | refine Below.drew ?_ | refine Below.setCell ?_ (by first | omega | (simp; done) | (simp; omega)) _ | refine Below.alloc ?_ (by first | omega | (simp; done) | (simp; omega)) _)))) (HR.out _ (Below.trans HWw.out (by (repeat (first | exact Below.refl _ _ | assumption | refine below_drewN ?_ _ | refine Below.drew ?_ | refine Below.setCell ?_ (by first | omega | (simp; done) | (simp; omega)) _ | refine Below.alloc ?_ (by first | omega | (simp; done) | (simp; omega)) _))))) (slr_lo HN.out.al.sl ((HN.out.below HWw.out).below (by (repeat (first | exact Below.refl _ _ | assumption | refine below_drewN ?_ _ | refine Below.drew ?_ | refine Below.setCell ?_ (by first | omega | (simp; done) | (simp; omega)) _ | refine Below.alloc ?_ (by first | omega | (simp; done) | (simp; omega)) _)))).al.sl (by omega))).mono ?_
        rintro e w3 ⟨rfl, hB3, hk3⟩
        have W3 : Hid (Below (w.heap.size + 1) W0 w3) := HW.out.trans (hk3.below (by omega) (fun i hi => (HS.out i hi).1))
        have hz3 : wr.heap.size ≤ w3.heap.size := hk3.size
        have HB3 := Lib.hid hB3
        have HS3 : Hid (∀ i, ((S i ∨ wr.heap.size ≤ i) ∧ i < w3.heap.size) → w.heap.size + 1 ≤ i ∧ i < w3.heap.size) := fun i hi => ⟨by
          rcases hi.1 with h1 | h1
          · exact (HS.out i h1).1
          · omega, hi.2⟩
        clear hk3 hB3 y0 y1 y2 y3 y4 y5 y6 y7 y8 y9
        go_wp2_with fail
        go_roundw
        case rel => exact ⟨k + 1, ns2, _, by omega, by omega, by go_num, HB3, HS3, HC2, HV2, hnl2, W3⟩
        case measure => simp [Go.RowKit.intOf]; omega
      · have hend : ¬ (k : Int) < (L.length : Int) ∨ ((k : Int) < (L.length : Int) ∧ ¬ (k : Int) < 64) := by
          by_cases h1 : k < L.length
          · exact .inr ⟨by omega, by omega⟩
          · exact .inl (by omega)
        have hn64 : ns.length ≤ 64 := by omega
        have HEV : Hid (∀ z ∈ ns, z.a.ev.size ≤ maxLen) := fun z hz => okA_ev (noticeE_zero (HV.out z hz)).1
        clear hlt
        rcases hend with he1 | ⟨he1, he2⟩
        all_goals
          go_wp2_with fail
          have DC : Below wr.heap.size wr wr := Below.refl _ _
          go_region_held3 (fun w' => ∀ b o, b < wr.heap.size → w'.cell? ⟨b, o, none⟩ = wr.cell? ⟨b, o, none⟩) (first | exact kN | exact fun b o h => rfl)
            (first
            | (go_at_call 29; refine (Notices_ S b ks q ns _ (Bd.below HB.out (Below.trans DC (by (repeat (first | exact Below.refl _ _ | assumption | refine below_drewN ?_ _ | refine Below.drew ?_ | refine Below.setCell ?_ (by first | omega | (simp; done) | (simp; omega)) _ | refine Below.alloc ?_ (by first | omega | (simp; done) | (simp; omega)) _)))))).mono ?_; rintro e wn ⟨M1, P1, pc1, hM, rfl, AX, AY, hbn⟩; have HM := Lib.hid hM; have AXS := Lib.hid (Sl.of_own AX); have AYS : Hid (∀ z ∈ M1, NIn wn z.n z.A z.c z.S z.sc) := (fun z hz => ⟨⟨HEV.out z.n (by rw [← hM]; exact List.mem_map.2 ⟨z, hz, rfl⟩), (AY z hz).1.sl⟩, (AY z hz).2.sl⟩); have sC := hbn.size; (try simp at sC); have DC := Below.trans DC (Below.trans (show Below wr.heap.size _ _ from (by (repeat (first | exact Below.refl _ _ | assumption | refine below_drewN ?_ _ | refine Below.drew ?_ | refine Below.setCell ?_ (by first | omega | (simp; done) | (simp; omega)) _ | refine Below.alloc ?_ (by first | omega | (simp; done) | (simp; omega)) _)))) (hbn.mono (by first | omega | (simp; done) | (simp; omega)))); have kN := (fun b o (h : b < wr.heap.size) => DC.cell (p := ⟨b, o, none⟩) h); clear hbn; clear AX AY hM)
            | (go_at_call 12; have hMl : M1.length ≤ 64 := (by have h9 := congrArg List.length HM.out; rw [List.length_map] at h9; omega); refine (settle_ ks q K kc M1 P1 pc1 (settleS ks q M1) 0 _ (HSE.out M1 hMl) (HR0.out _ (Below.trans HWw.out (Below.mono (Below.trans DC (by (repeat (first | exact Below.refl _ _ | assumption | refine below_drewN ?_ _ | refine Below.drew ?_ | refine Below.setCell ?_ (by first | omega | (simp; done) | (simp; omega)) _ | refine Below.alloc ?_ (by first | omega | (simp; done) | (simp; omega)) _)))) (by omega)))) (HR.out _ (Below.trans HWw.out (Below.mono (Below.trans DC (by (repeat (first | exact Below.refl _ _ | assumption | refine below_drewN ?_ _ | refine Below.drew ?_ | refine Below.setCell ?_ (by first | omega | (simp; done) | (simp; omega)) _ | refine Below.alloc ?_ (by first | omega | (simp; done) | (simp; omega)) _)))) (by omega)))) (Sl.belowT AXS.out (by (repeat (first | exact Below.refl _ _ | assumption | refine below_drewN ?_ _ | refine Below.drew ?_ | refine Below.setCell ?_ (by first | omega | (simp; done) | (simp; omega)) _ | refine Below.alloc ?_ (by first | omega | (simp; done) | (simp; omega)) _)))) (fun z hz => (AYS.out z hz).below (by (repeat (first | exact Below.refl _ _ | assumption | refine below_drewN ?_ _ | refine Below.drew ?_ | refine Below.setCell ?_ (by first | omega | (simp; done) | (simp; omega)) _ | refine Below.alloc ?_ (by first | omega | (simp; done) | (simp; omega)) _)))) (by omega)).mono ?_; rintro e wn ⟨A1, a1, rfl, o1, hbn⟩; have R1 := Lib.hid (Sl.of_own o1); have sC := hbn.size; (try simp at sC); have DC := Below.trans DC (Below.trans (show Below wr.heap.size _ _ from (by (repeat (first | exact Below.refl _ _ | assumption | refine below_drewN ?_ _ | refine Below.drew ?_ | refine Below.setCell ?_ (by first | omega | (simp; done) | (simp; omega)) _ | refine Below.alloc ?_ (by first | omega | (simp; done) | (simp; omega)) _)))) (hbn.mono (by first | omega | (simp; done) | (simp; omega)))); have kN := (fun b o (h : b < wr.heap.size) => DC.cell (p := ⟨b, o, none⟩) h); clear hbn; clear o1))
          all_goals
            have HW8 : Hid (Below wr.heap.size wr wn) := DC
            have HWw8 : Hid (Below w.heap.size w wn) := HWw.out.trans (DC.mono (by omega))
            have HB8 := Lib.hid (HB.out.below DC)
            have HAG : Hid (∀ b ∈ settleS ks q M1, b.ev.size ≤ maxLen ∧ (((forceR ns b.ev.data.toList).2 = 107 ∧ b.st = 2 ∧ b.ver = 0) ∨ ∃ a, forceR ns b.ev.data.toList = (a, 0) ∧ okA a = true ∧ b.st = 1 ∧ b.ver = a.ver ∧ b.dig = digA a)) := by
              have h1 := HM.out
              intro b hb
              have hv1 : ∀ x ∈ M1, noticeE ks q x.n = 0 := fun x hx => HV.out _ (by rw [← h1]; exact List.mem_map.2 ⟨x, hx, rfl⟩)
              refine ⟨?_, by have h2 := agree_st hv1 (by rw [h1]; exact HCN.out) hb; rw [h1] at h2; exact h2⟩
              unfold settleS at hb
              rw [valid_all hv1] at hb
              obtain ⟨m, hm, rfl⟩ := List.mem_map.1 hb
              rw [standS_ev]
              obtain ⟨x, hx, e⟩ := ((evW_spec M1).2 m).1 hm
              rw [← e]
              exact okA_ev (noticeE_zero (hv1 x hx)).1
            obtain ⟨la, hla⟩ : ∃ la, la = settleS ks q M1 := ⟨_, rfl⟩
            rw [← hla] at HAG R1
            rw [← hla]
            have r0 := (HW8.out.cell (p := ⟨w.heap.size, 0, none⟩) lwr).trans r0
            have r1 := (HW8.out.cell (p := ⟨w.heap.size, 1, none⟩) lwr).trans r1
            have lwr : w.heap.size < wn.heap.size := by have := HW8.out.size; omega
            clear DC kN HM AXS AYS hla
            obtain ⟨w8, hw8⟩ : ∃ w8, w8 = wn := ⟨_, rfl⟩
            rw [← hw8] at HW8 HWw8 HB8 R1 r0 r1 lwr
            rw [← hw8]
            clear hw8
            go_wp2_with fail
            have DC : Below w8.heap.size w8 w8 := Below.refl _ _
            go_region_held3 (fun w' => ∀ b o, b < w8.heap.size → w'.cell? ⟨b, o, none⟩ = w8.cell? ⟨b, o, none⟩) (first | exact kN | exact fun b o h => rfl)
              (first
              | (go_at_call 29; refine (Notices_ S b ks q ns _ (Bd.below HB8.out (Below.trans DC (by (repeat (first | exact Below.refl _ _ | assumption | refine below_drewN ?_ _ | refine Below.drew ?_ | refine Below.setCell ?_ (by first | omega | (simp; done) | (simp; omega)) _ | refine Below.alloc ?_ (by first | omega | (simp; done) | (simp; omega)) _)))))).mono ?_; rintro e wn ⟨M2, P2, pc2, hM, rfl, AX, AY, hbn⟩; have HM := Lib.hid hM; have AXS := Lib.hid (Sl.of_own AX); have AYS : Hid (∀ z ∈ M2, NIn wn z.n z.A z.c z.S z.sc) := (fun z hz => ⟨⟨HEV.out z.n (by rw [← hM]; exact List.mem_map.2 ⟨z, hz, rfl⟩), (AY z hz).1.sl⟩, (AY z hz).2.sl⟩); have sC := hbn.size; (try simp at sC); have DC := Below.trans DC (Below.trans (show Below w8.heap.size _ _ from (by (repeat (first | exact Below.refl _ _ | assumption | refine below_drewN ?_ _ | refine Below.drew ?_ | refine Below.setCell ?_ (by first | omega | (simp; done) | (simp; omega)) _ | refine Below.alloc ?_ (by first | omega | (simp; done) | (simp; omega)) _)))) (hbn.mono (by first | omega | (simp; done) | (simp; omega)))); have kN := (fun b o (h : b < w8.heap.size) => DC.cell (p := ⟨b, o, none⟩) h); clear hbn; clear AX AY hM)
              | (go_at_call 25; have hMl : M2.length ≤ 64 := (by have h9 := congrArg List.length HM.out; rw [List.length_map] at h9; omega); refine (forks_ ks q K kc M2 P2 pc2 [] 0 _ (HFN.out M2 hMl (fun z hz => HV.out _ (by rw [← HM.out]; exact List.mem_map.2 ⟨z, hz, rfl⟩)) (by rw [HM.out]; exact HCN.out)) (HR0.out _ (Below.trans HWw8.out (Below.mono (Below.trans DC (by (repeat (first | exact Below.refl _ _ | assumption | refine below_drewN ?_ _ | refine Below.drew ?_ | refine Below.setCell ?_ (by first | omega | (simp; done) | (simp; omega)) _ | refine Below.alloc ?_ (by first | omega | (simp; done) | (simp; omega)) _)))) HWw8.out.size))) (HR.out _ (Below.trans HWw8.out (Below.mono (Below.trans DC (by (repeat (first | exact Below.refl _ _ | assumption | refine below_drewN ?_ _ | refine Below.drew ?_ | refine Below.setCell ?_ (by first | omega | (simp; done) | (simp; omega)) _ | refine Below.alloc ?_ (by first | omega | (simp; done) | (simp; omega)) _)))) HWw8.out.size))) (Sl.belowT AXS.out (by (repeat (first | exact Below.refl _ _ | assumption | refine below_drewN ?_ _ | refine Below.drew ?_ | refine Below.setCell ?_ (by first | omega | (simp; done) | (simp; omega)) _ | refine Below.alloc ?_ (by first | omega | (simp; done) | (simp; omega)) _)))) (fun z hz => (AYS.out z hz).below (by (repeat (first | exact Below.refl _ _ | assumption | refine below_drewN ?_ _ | refine Below.drew ?_ | refine Below.setCell ?_ (by first | omega | (simp; done) | (simp; omega)) _ | refine Below.alloc ?_ (by first | omega | (simp; done) | (simp; omega)) _)))) (by omega)).mono ?_; rintro e wn ⟨G, A2, a2, hG, rfl, _, _, hbn⟩; have hG0 : G.length = 0 := (by have := congrArg List.length hG; simpa using this); have sC := hbn.size; (try simp at sC); have DC := Below.trans DC (Below.trans (show Below w8.heap.size _ _ from (by (repeat (first | exact Below.refl _ _ | assumption | refine below_drewN ?_ _ | refine Below.drew ?_ | refine Below.setCell ?_ (by first | omega | (simp; done) | (simp; omega)) _ | refine Below.alloc ?_ (by first | omega | (simp; done) | (simp; omega)) _)))) (hbn.mono (by first | omega | (simp; done) | (simp; omega)))); have kN := (fun b o (h : b < w8.heap.size) => DC.cell (p := ⟨b, o, none⟩) h); clear hbn; clear hG))
            all_goals
              have HW9 : Hid (Below w8.heap.size w8 wn) := DC
              have HWw9 : Hid (Below w.heap.size w wn) := HWw8.out.trans (DC.mono HWw8.out.size)
              have HB9 := Lib.hid (HB8.out.below DC)
              have R1 := Lib.hid (R1.out.belowT DC)
              clear DC kN HM AXS AYS
              obtain ⟨w9, hw9⟩ : ∃ w9, w9 = wn := ⟨_, rfl⟩
              rw [← hw9] at HW9 HWw9 HB9 R1
              rw [← hw9]
              clear hw9
              have hll := Nat.le_trans R1.out.cap R1.out.max
              unfold maxLen at hll
              have q1 : ((0 : Int) != 0) = false := by simp
              go_wp2_with fail
              go_loopw [11] (fun i wr => SaRel la.length w9 i wr) (fun i _ => la.length - (Go.RowKit.intOf i).toNat)
              case atStart => exact ⟨0, Nat.zero_le _, rfl, Below.refl _ _⟩
              case round =>
                obtain ⟨j, hj, rfl, hB2⟩ := hrel
                have sz2 := hB2.size
                have HBz := Lib.hid hB2
                have HWwz : Hid (Below w.heap.size w wr) := HWw9.out.trans (hB2.mono HWw9.out.size)
                clear hB2
                by_cases hjl : j < la.length
                · have m0 : (0 : Int) ≤ (j : Int) := by omega
                  have m1 : (j : Int) < (la.length : Int) := by omega
                  obtain ⟨sb, so, rfl, hsb, z0, z1, z2, z3⟩ := (R1.out.below HBz.out).std_at hjl
                  have hsb2 : sb < wr.heap.size := by omega
                  obtain ⟨hev, hag⟩ := HAG.out la[j] (List.getElem_mem hjl)
                  obtain ⟨b2, hb2⟩ : ∃ b2, b2 = la[j] := ⟨_, rfl⟩
                  rw [← hb2] at z0 z1 z2 z3 hev hag
                  clear hb2
                  rcases hag with ⟨h1, h2, h3⟩ | ⟨x, h1, h2, h3, h4, h5⟩
                  · obtain ⟨x, hx⟩ : ∃ x, forceR ns b2.ev.data.toList = (x, 107) := ⟨_, by rw [← h1]⟩
                    have HF := Lib.hid hx
                    rw [h2] at z1
                    rw [h3] at z2
                    clear h1 h2 h3 hx
                    go_wp2_with (go_at_call 21; refine (Force_ S b ks q ns b2.ev _ x 107 HF.out hev ((HB9.out.below HBz.out).below (by (repeat (first | exact Below.refl _ _ | assumption | refine below_drewN ?_ _ | refine Below.drew ?_ | refine Below.setCell ?_ (by first | omega | (simp; done) | (simp; omega)) _ | refine Below.alloc ?_ (by first | omega | (simp; done) | (simp; omega)) _))))).mono ?_; rintro e wf ⟨FA, fc, rfl, _, hb⟩; obtain ⟨hcf, hff⟩ := bcell hb; have szf := hb.size; (try simp at szf); have HBf := Lib.hid (HBz.out.trans (Below.mono ((show Below wr.heap.size wr _ from by (repeat (first | exact Below.refl _ _ | assumption | refine below_drewN ?_ _ | refine Below.drew ?_ | refine Below.setCell ?_ (by first | omega | (simp; done) | (simp; omega)) _ | refine Below.alloc ?_ (by first | omega | (simp; done) | (simp; omega)) _))).trans (hb.mono (by first | omega | (simp; done) | (simp; omega)))) HBz.out.size)); have lsb : sb < wf.heap.size := (by omega); clear hb)
                    go_roundw
                    case rel => exact ⟨j + 1, by omega, by go_num, by repeat (first | exact HBf.out | refine Below.alloc ?_ (by first | omega | (simp; done) | (simp; omega)) _)⟩
                    case measure => simp [Go.RowKit.intOf]; omega
                  · have HF := Lib.hid h1
                    have HK := Lib.hid h2
                    have hxe := okA_ev h2
                    rw [h3] at z1
                    rw [h4] at z2
                    rw [h5] at z3
                    have q5 : (digA x != digA x) = false := by simp
                    have q6 : (x.ver != x.ver) = false := by simp
                    clear h1 h2 h3 h4 h5
                    obtain ⟨dg, hdg⟩ : ∃ dg, digA x = dg := ⟨_, rfl⟩
                    have HDG := Lib.hid hdg
                    rw [hdg] at z3 q5
                    clear hdg
                    go_wp2_with (first
                      | (go_at_call 21; refine (Force_ S b ks q ns b2.ev _ x 0 HF.out hev ((HB9.out.below HBz.out).below (by (repeat (first | exact Below.refl _ _ | assumption | refine below_drewN ?_ _ | refine Below.drew ?_ | refine Below.setCell ?_ (by first | omega | (simp; done) | (simp; omega)) _ | refine Below.alloc ?_ (by first | omega | (simp; done) | (simp; omega)) _))))).mono ?_; rintro e wf ⟨FA, fc, rfl, ho, hb⟩; obtain ⟨hcf, hff⟩ := bcell hb; have szf := hb.size; (try simp at szf); have HBf := Lib.hid (HBz.out.trans (Below.mono ((show Below wr.heap.size wr _ from by (repeat (first | exact Below.refl _ _ | assumption | refine below_drewN ?_ _ | refine Below.drew ?_ | refine Below.setCell ?_ (by first | omega | (simp; done) | (simp; omega)) _ | refine Below.alloc ?_ (by first | omega | (simp; done) | (simp; omega)) _))).trans (hb.mono (by first | omega | (simp; done) | (simp; omega)))) HBz.out.size)); have lsb : sb < wf.heap.size := (by omega); have HA := Lib.hid (own_in hxe ho); have HWf := Lib.hid (HWw9.out.trans (HBf.out.mono HWw9.out.size)); clear hb ho)
                      | (go_at_call 30; refine (digest_tv x FA fc dg _ HDG.out HK.out (HA.out.below (by (repeat (first | exact Below.refl _ _ | assumption | refine below_drewN ?_ _ | refine Below.drew ?_ | refine Below.setCell ?_ (by first | omega | (simp; done) | (simp; omega)) _ | refine Below.alloc ?_ (by first | omega | (simp; done) | (simp; omega)) _)))) (HR.out _ (Below.trans HWf.out (Below.mono (show Below wf.heap.size wf _ from by (repeat (first | exact Below.refl _ _ | assumption | refine below_drewN ?_ _ | refine Below.drew ?_ | refine Below.setCell ?_ (by first | omega | (simp; done) | (simp; omega)) _ | refine Below.alloc ?_ (by first | omega | (simp; done) | (simp; omega)) _))) HWf.out.size)))).mono ?_; rintro e wg ⟨rfl, hb⟩; obtain ⟨hcg, hfg⟩ := bcell hb; have szg := hb.size; (try simp at szg); have HBg := Lib.hid (HBf.out.trans (Below.mono ((show Below wf.heap.size wf _ from by (repeat (first | exact Below.refl _ _ | assumption | refine below_drewN ?_ _ | refine Below.drew ?_ | refine Below.setCell ?_ (by first | omega | (simp; done) | (simp; omega)) _ | refine Below.alloc ?_ (by first | omega | (simp; done) | (simp; omega)) _))).trans (hb.mono (by first | omega | (simp; done) | (simp; omega)))) HBf.out.size)); have lsg : sb < wg.heap.size := (by omega); have lfg : wf.heap.size < wg.heap.size := (by omega); clear hb))
                    refine wp_region_bw2 (by kernel_rfl) (by kernel_rfl) (fun hbwc => ?_)
                    repeat (go_big_quiet_step (fail))
                    refine wpQuiet_nil ?_
                    clear hbwc
                    intro w3 hb
                    have HB3 := Lib.hid (HBg.out.trans (Below.mono ((show Below wg.heap.size wg _ from (by (repeat (first | exact Below.refl _ _ | assumption | refine below_drewN ?_ _ | refine Below.drew ?_ | refine Below.setCell ?_ (by first | omega | (simp; done) | (simp; omega)) _ | refine Below.alloc ?_ (by first | omega | (simp; done) | (simp; omega)) _)))).trans (hb.mono (by first | omega | (simp; done) | (simp; omega)))) HBg.out.size))
                    clear hb
                    go_wp2_with fail
                    go_roundw
                    case rel => exact ⟨j + 1, by omega, by go_num, HB3.out⟩
                    case measure => simp [Go.RowKit.intOf]; omega
                · obtain rfl : j = la.length := by omega
                  go_wp2_with (go_at_call 13; refine (works_ wr (HR.out _ HWwz.out)).mono ?_; rintro e w7 ⟨rfl, hb⟩; have Ww7 : Hid (Below w.heap.size w w7) := HWwz.out.trans (hb.mono HWwz.out.size); clear hb)
                  go_ret
                  exact ⟨rfl, Ww7.out⟩
  · have hof : rollOk ks q = false := by simpa using ho
    have HO := Lib.hid hof
    clear ho hof
    go_enter Tryz.func7, Tryz.ntmps7
    go_wp2_with fail
    refine (newBoard_f ks q K kc _ (HR0.out _ (by (repeat (first | exact Below.refl _ _ | assumption | refine below_drewN ?_ _ | refine Below.drew ?_ | refine Below.setCell ?_ (by first | omega | (simp; done) | (simp; omega)) _ | refine Below.alloc ?_ (by first | omega | (simp; done) | (simp; omega)) _)))) HO.out).mono ?_
    rintro e w1 ⟨rfl, hb⟩
    have W1 : Hid (Below w.heap.size w w1) := (show Below w.heap.size w _ from by (repeat (first | exact Below.refl _ _ | assumption | refine below_drewN ?_ _ | refine Below.drew ?_ | refine Below.setCell ?_ (by first | omega | (simp; done) | (simp; omega)) _ | refine Below.alloc ?_ (by first | omega | (simp; done) | (simp; omega)) _))).trans (hb.mono (by simp))
    clear hb
    go_wp2_with (go_at_call 13; refine (works_ w1 (HR.out _ W1.out)).mono ?_; rintro e w7 ⟨rfl, hb⟩; have Ww7 : Hid (Below w.heap.size w w7) := W1.out.trans (hb.mono W1.out.size); clear hb)
    go_ret
    exact ⟨rfl, Ww7.out⟩

set_option maxRecDepth 100000 in
theorem alertAgrees_contract (H : Type) (enc : TypeId × Value → H) (W : World) (base : Nat) (args : Array Value) (ds gs : List (DataW H)) (before : List MemPlace)
    (hval : ∀ (j : Nat) t v, Tryz.f7.params[j]? = some t → args[j]? = some v → Value.okWide Tryz.prog W .any base t v)
    (hW : DataW.Whole enc Tryz.prog Tryz.f7.params.toList Rows.alertAgreesSpec.vars false W args.toList ds gs before)
    (hwt : (DataW.weightsEach Tryz.prog Tryz.f7.params.toList ds).all (· ≤ reachBytes) = true) (hL : laidMetH Tryz.prog Rows.alertAgreesRow.laid W) :
    Calls Tryz.prog 7 args W fun e W' => ∃ v, e = .returned v ∧ Rows.alertAgreesSpec.post enc Tryz.prog Tryz.f7 false true false false W args v W' := by
  have hlt : ∀ x ∈ before, x.block < W.heap.size := fun x hx => hW.lt x hx
  have hW' := hW
  obtain ⟨p, q, hA0, hV, rfl, _, _⟩ := hW
  have hA : DataW.TrodAll enc Tryz.prog W 0 (fun _ => true) true Tryz.f7.params.toList args.toList ds p := hA0
  have hrdy : Rdy W := rdyOf hL
  obtain ⟨rfl, rfl⟩ := trodVars_none hV
  rw [Tryz.params7] at hA hval hwt
  have rd : ∀ (j : Nat) (t : TypeId) (v : Value), ([24, 25] : List TypeId)[j]? = some t → args.toList[j]? = some v → Rdg enc W W.heap.size t v.cells.toList := fun j t v h1 h2 =>
    rdgOf hA (fun x hx => hlt x (List.mem_append.2 (.inl hx))) hwt h1 h2
  obtain ⟨v0, vs0, d0, ds0, p0, q0, e0, rfl, rfl, h0, r0⟩ := trodAll_cons hA
  obtain ⟨v1, vs1, d1, ds1, p1, q1, e1, rfl, rfl, h1, r1⟩ := trodAll_cons r0
  obtain ⟨rfl, rfl, rfl⟩ := trodAll_nil r1
  obtain rfl : args = #[v0, v1] := by cases args; simp_all
  have walk : Calls Tryz.prog 7 #[v0, v1] W fun e w' => e = .returned (.bool true) ∧ Below W.heap.size W w' := by
    obtain ⟨c0, hc0, _⟩ := okWide_struct Tryz.underlying24 (hval 0 24 v0 rfl rfl)
    obtain ⟨N, n, nc, hc1⟩ := okWide_slice Tryz.underlying25 (hval 1 25 v1 rfl rfl)
    obtain ⟨K, kc, ks, qq, hk, hks⟩ := roll_open (rd 0 24 v0 rfl rfl)
    obtain ⟨N', nc', L, hn, hl, hbytes, hL⟩ := ntcs_open (rd 1 25 v1 rfl rfl)
    subst hc0 hc1
    have e0 : c0 = #[.slice K ks.length kc, .int .i64 qq] := by rw [← Array.toList_inj]; exact hk
    subst e0
    obtain ⟨rfl, rfl, rfl⟩ : N = N' ∧ n = L.length ∧ nc = nc' := by have h : [Value.slice N n nc] = [Value.slice N' L.length nc'] := hn; simpa using h
    exact lagrees_ ks qq K kc L N nc W hks hl (fun x hx => ⟨⟨(hL x hx).ev, (hL x hx).cells⟩, (hL x hx).sigs⟩) (by omega) hrdy
  refine walk.mono fun e W' ⟨he, hb⟩ => ?_
  subst he
  exact ⟨_, rfl, lawPost hW' rfl (by kernel_rfl) rfl (by rw [Tryz.params7]; intro t ht; simp at ht; rcases ht with rfl | rfl <;> exact ⟨by kernel_rfl, of_decide_eq_true (by kernel_rfl)⟩) hb⟩

theorem alertAgrees_reads (os : Os) {H : Type} (enc : TypeId × Value → H) : ∃ places, DataW.whole enc Tryz.prog ((laidWorld os).forCall (fun _ _ => 0) ⟨#[], #[.agg #[.slice none 0 0, .int .i64 0], .slice none 0 0], []⟩).memory Tryz.f7.params.toList Rows.alertAgreesSpec.vars false (#[.agg #[.slice none 0 0, .int .i64 0], .slice none 0 0] : Array Value).toList 8 = some ([.agg [.nil, .lit (.int .i64 0)], .nil], [], places) :=
  ⟨[], by kernel_rfl⟩
set_option maxRecDepth 100000 in
theorem alertAgrees_lifted (os : Os) (started : os.Started) (H : Type) (enc : TypeId × Value → H) (F : Stop.Interp) :
    ReturnsInHanded {} Tryz.checked os 7 .any ((OpenSpec.ofChange Rows.alertAgreesSpec).preRow enc Tryz.prog Tryz.f7 Rows.alertAgreesRow.domain false Rows.alertAgreesRow.laid) (((OpenSpec.ofChange Rows.alertAgreesSpec).at F).post enc Tryz.prog Tryz.f7 false true false false) := by
  obtain ⟨places, hx⟩ := alertAgrees_reads os enc
  refine returnsInHanded_of_row (C := Tryz.checked) (s := OpenSpec.ofChange Rows.alertAgreesSpec) own started (by kernel_rfl) Tryz.func7
    (witness_row_at (enc := enc) (C := Tryz.checked) false (laidWorld os) #[.agg #[.slice none 0 0, .int .i64 0], .slice none 0 0] rfl (by kernel_rfl) (by kernel_rfl) (by kernel_rfl)
      (OpenSpec.preRow_of_cond 8 hx (by kernel_rfl) (fun k hk => by cases hk) (by kernel_rfl) (laid_met os _))) ?_
  intro W base args ds gs before hval hW _ _ hwt hL _ _
  refine alertAgrees_contract H enc W base args ds gs before hval hW ?_ hL
  have hgs : gs = [] := by
    obtain ⟨p, q, _, hV, _⟩ := hW
    exact (trodVars_none hV).1
  subst hgs
  have hw2 : (DataW.weightsEach Tryz.prog (Tryz.f7.params.toList ++ []) (ds ++ [])).all (· ≤ reachBytes) = true := hwt
  rw [List.append_nil, List.append_nil] at hw2
  exact hw2
theorem alertAgrees_said : Rows.AlertAgreesSaid :=
  OpenClaim.holds_of_cond 7 Tryz.f7 rfl rfl rfl rfl rfl rfl rfl ⟨rfl, rfl, rfl, rfl, rfl⟩ rfl rfl rfl rfl rfl (by kernel_rfl) Tryz.func7 (by kernel_rfl)
    (of_decide_eq_true (by kernel_rfl)) (by unfold Func.isWrapper; first | (rw [if_pos (by decide +kernel)]; kernel_rfl) | (rw [if_neg (by decide +kernel)]; exact ⟨rfl, rfl⟩))
    (fun os started H enc _ F => by rw [OpenClaim.pre_eq_preRow]; exact alertAgrees_lifted os started H enc F)
theorem alertAgrees_plain (f : FuncId) (fn : Func) (hf : Tryz.pinned.checked.prog.funcNamed "ringdown/ringdownlaw10.AlertAgrees" = some f) (hfn : Tryz.pinned.checked.prog.funcs[f]? = some fn) :
    true = Tryz.pinned.checked.prog.looks [] ∧ ∀ (j : Nat) t, fn.params[j]? = some t → Tryz.pinned.checked.prog.wantsStandIn t = false := by
  obtain rfl : f = 7 := Option.some.inj ((show Tryz.prog.funcNamed "ringdown/ringdownlaw10.AlertAgrees" = some 7 by kernel_rfl).symm.trans hf) |>.symm
  obtain rfl : fn = Tryz.f7 := (Option.some.inj (Tryz.func7.symm.trans hfn)).symm
  refine ⟨by kernel_rfl, fun j t ht => ?_⟩
  rw [Tryz.params7] at ht
  have := Array.mem_of_getElem? ht
  simp at this
  rcases this with rfl | rfl
  · exact (show Tryz.prog.wantsStandIn 24 = false by kernel_rfl)
  · exact (show Tryz.prog.wantsStandIn 25 = false by kernel_rfl)
/-- The law's card. -/
theorem alertAgrees_card : Rows.AlertAgreesCardSaid :=
  Claim7.holds_tied_plain_at .later [] _ _ _ _ alertAgrees_said (fun _ h => by cases h) (by kernel_rfl) (fun _ h => by cases h) alertAgrees_row_tie rfl ⟨rfl, rfl⟩ (by kernel_rfl) rfl alertAgrees_plain (by kernel_rfl)
end Go.Proofs.YtohfofecbdfkgaaGreatDoor
