/-
  The walk of standing, of the specification.
-/
import Derived.Test.YtohfofecbdfkgaaGreatDoorU19
import Derived.Test.YtohfofecbdfkgaaGreatDoorU12
import Derived.Test.YtohfofecbdfkgaaGreatDoorU16
import Derived.Test.YtohfofecbdfkgaaGreatDoorU15
namespace Go.Proofs.YtohfofecbdfkgaaGreatDoor
open Go.RowKit Al

theorem lt4 {p : Nat → Prop} (h : p 0 ∧ p 1 ∧ p 2 ∧ p 3) : ∀ j, j < 4 → p j
  | 0, _ => h.1 | 1, _ => h.2.1 | 2, _ => h.2.2.1 | 3, _ => h.2.2.2
  | n + 4, h' => absurd h' (by omega)
def StdT (s : Std) (w : World) (e : Ending) (w' : World) : Prop := e = .returned (.agg s.lst.toArray) ∧ Below w.heap.size w w'
def SuRel (w W0 : World) (L : List It) (d b i : Value) (wr : World) : Prop := ∃ (k : Nat) (dv : Bool) (bv : Nat), k ≤ L.length ∧ Hid ((L.take k).any (fun x => x.n.a.wd) = false) ∧ Hid (disp L k = dv) ∧ Hid (bestI L k = bv) ∧ d = .bool dv ∧ b = .int .i64 bv ∧ i = .int .i64 k ∧ Below (w.heap.size + 1) W0 wr
def SvRel (w W0 : World) (L : List It) (k : Nat) (d j : Value) (wr : World) : Prop := ∃ (jj : Nat) (dv : Bool), jj ≤ k ∧ Hid ((disp L k || dispIn L k jj) = dv) ∧ d = .bool dv ∧ j = .int .i64 jj ∧ Below (w.heap.size + 1) W0 wr

theorem rdigest_is (a : Alr) (A : Option Addr) (c : Nat) (w : World) (v : Int) (hv : digA a = v) (hk : okA a = true) (h : AIn w a A c) :
    Calls Tryz.prog 89 #[a.val A c] w fun e w' => e = .returned (.int .i64 v) ∧ Below w.heap.size w w' := hv ▸ rdigestA a A c w hk h

set_option maxRecDepth 100000 in
set_option maxHeartbeats 8000000 in
theorem standing_ (L : List It) (N : Option Addr) (nc : Nat) (ev : ByteArray) (s : Std) (w : World) (hs : standS ev L = s) (hL : Sl w w.heap.size 10 N L.length nc (itCells L)) (hI : ∀ x ∈ L, NIn w x.n x.A x.c x.S x.sc) (hok : ∀ x ∈ L, okA x.n.a = true) (hne : 0 < L.length) (hlen : L.length ≤ 1048576) :
    Calls Tryz.prog 65 #[.string ev, .slice N L.length nc] w (StdT s w) := by
  have HL := Lib.hid hL
  have HI := Lib.hid hI
  have HK := Lib.hid hok
  have HSV := Lib.hid hs
  clear hL hI hok hs
  go_enter Tryz.func65, Tryz.ntmps65
  go_wp2_with fail
  go_loopw [5, 6, 7] (fun d b i wr => SuRel w (w.alloc (.cells #[.string ⟨#[]⟩, .int .i64 0, .int .i64 0, .int .i64 0] 33)) L d b i wr) (fun _ _ i _ => L.length - (intOf i).toNat)
  case atStart => exact ⟨0, false, 0, Nat.zero_le _, (by show _ = _; simp), rfl, rfl, rfl, rfl, rfl, Below.refl _ _⟩
  case round =>
    obtain ⟨k, dv, bv, hk, HW, HD, HB0, rfl, rfl, rfl, hB⟩ := hrel
    have hsz := hB.size
    simp at hsz
    have HB1 := Lib.hid hB
    have HB : Hid (Below w.heap.size w wr) := (show Below w.heap.size w _ from by (repeat (first | exact Below.refl _ _ | assumption | refine below_drewN ?_ _ | refine Below.drew ?_ | refine Below.setCell ?_ (by first | omega | (simp; done) | (simp; omega)) _ | refine Below.alloc ?_ (by first | omega | (simp; done) | (simp; omega)) _))).trans (hB.mono (by omega))
    have lw : w.heap.size < wr.heap.size := by omega
    have hbv : bv ≤ k := by rw [← HB0.out]; exact bestI_le L k
    have c0 : wr.cell? ⟨w.heap.size, 0, none⟩ = some (.string ⟨#[]⟩) := by rw [hB.cell (p := ⟨w.heap.size, 0, none⟩) (by show w.heap.size < w.heap.size + 1; omega)]; simp [go_sem]
    have f0 : wr.frozen? ⟨w.heap.size, 0, none⟩ = false := by rw [hB.frozen (p := ⟨w.heap.size, 0, none⟩) (by show w.heap.size < w.heap.size + 1; omega)]; simp [go_sem]
    have c1 : wr.cell? ⟨w.heap.size, 1, none⟩ = some (.int .i64 0) := by rw [hB.cell (p := ⟨w.heap.size, 1, none⟩) (by show w.heap.size < w.heap.size + 1; omega)]; simp [go_sem]
    have f1 : wr.frozen? ⟨w.heap.size, 1, none⟩ = false := by rw [hB.frozen (p := ⟨w.heap.size, 1, none⟩) (by show w.heap.size < w.heap.size + 1; omega)]; simp [go_sem]
    have c2 : wr.cell? ⟨w.heap.size, 2, none⟩ = some (.int .i64 0) := by rw [hB.cell (p := ⟨w.heap.size, 2, none⟩) (by show w.heap.size < w.heap.size + 1; omega)]; simp [go_sem]
    have f2 : wr.frozen? ⟨w.heap.size, 2, none⟩ = false := by rw [hB.frozen (p := ⟨w.heap.size, 2, none⟩) (by show w.heap.size < w.heap.size + 1; omega)]; simp [go_sem]
    have c3 : wr.cell? ⟨w.heap.size, 3, none⟩ = some (.int .i64 0) := by rw [hB.cell (p := ⟨w.heap.size, 3, none⟩) (by show w.heap.size < w.heap.size + 1; omega)]; simp [go_sem]
    have f3 : wr.frozen? ⟨w.heap.size, 3, none⟩ = false := by rw [hB.frozen (p := ⟨w.heap.size, 3, none⟩) (by show w.heap.size < w.heap.size + 1; omega)]; simp [go_sem]
    clear hB
    by_cases hlt : k < L.length
    · obtain ⟨nb, off, rfl, hnb, y0, y1, y2, y3, y4, y5, y6, y7, y8, y9⟩ := (HL.out.below HB.out).it_at hlt
      have i0 : (0 : Int) ≤ (k : Int) := by omega
      have i1 : (k : Int) < (L.length : Int) := by omega
      have hnb2 : nb < wr.heap.size := by omega
      cases hwd : L[k].n.a.wd with
      | true =>
        have HX := Lib.hid (any_take_at (p := fun x : It => x.n.a.wd) hlt hwd)
        rw [hwd] at y7
        clear hwd y0 y1 y2 y3 y4 y5 y6 y8 y9
        go_wp2_with fail
        have HS9 : Hid (s = ⟨ev, 2, 0, 0⟩) := by show _ = _; rw [← HSV.out]; unfold standS; rw [if_pos HX.out]
        refine finCells (w := wr) (w.heap.size) (⟨ev, 2, 0, 0⟩ : Std).lst (.agg (⟨ev, 2, 0, 0⟩ : Std).lst.toArray) rfl ?_ ?_ ⟨by rw [HS9.out], below_setCells (by omega) _ _ _ _ HB.out⟩
        · intro W hW
          have r0 := hW 0 (show 0 < 4 by decide)
          have r1 := hW 1 (show 1 < 4 by decide)
          have r2 := hW 2 (show 2 < 4 by decide)
          have r3 := hW 3 (show 3 < 4 by decide)
          clear hW
          simp only [Std.lst, List.getElem_cons_zero, List.getElem_cons_succ] at r0 r1 r2 r3
          simp [results, Tryz.results65, go_sem, r0, r1, r2, r3, Std.lst]
        · refine lt4 ?_
          simp [go_sem, c0, c1, c2, c3]
      | false =>
        have HWN := Lib.hid (any_take_no (p := fun x : It => x.n.a.wd) hlt HW.out hwd)
        rw [hwd] at y7
        clear hwd y0 y1 y2 y3 y4 y5 y6 y8 y9
        go_wp2_with fail
        go_loopw [5, 8] (fun d j wz => SvRel w (w.alloc (.cells #[.string ⟨#[]⟩, .int .i64 0, .int .i64 0, .int .i64 0] 33)) L k d j wz) (fun _ j _ => k - (intOf j).toNat)
        case atStart => exact ⟨0, dv, Nat.zero_le _, (by show _ = _; rw [HD.out]; simp [dispIn]), rfl, rfl, HB1.out⟩
        case round =>
          obtain ⟨jj, dj, hj, HDJ, rfl, rfl, hB9⟩ := hrel
          have HB9 := Lib.hid hB9
          have HBz : Hid (Below w.heap.size w wr) := (show Below w.heap.size w _ from by (repeat (first | exact Below.refl _ _ | assumption | refine below_drewN ?_ _ | refine Below.drew ?_ | refine Below.setCell ?_ (by first | omega | (simp; done) | (simp; omega)) _ | refine Below.alloc ?_ (by first | omega | (simp; done) | (simp; omega)) _))).trans (hB9.mono (by omega))
          have hsz9 := hB9.size
          simp at hsz9
          clear hB9
          by_cases hjl : jj < k
          · have hjL : jj < L.length := by omega
            have hDN := dispIn_next L k jj
            rw [clashAt_eq hjL hlt] at hDN
            have HDN := Lib.hid hDN
            clear hDN
            obtain ⟨b1, o1, e1, hb1, p0, p1, p2, p3, p4, p5, p6, p7, p8, p9⟩ := (HL.out.below HBz.out).it_at hjL
            obtain ⟨b2, o2, e2, hb2, q0, q1, q2, q3, q4, q5, q6, q7, q8, q9⟩ := (HL.out.below HBz.out).it_at hlt
            cases e1
            cases e2
            have hnb3 : nb < wr.heap.size := by omega
            have j0 : (0 : Int) ≤ (jj : Int) := by omega
            have j1 : (jj : Int) < (L.length : Int) := by omega
            have j2 : (jj : Int) < (k : Int) := by omega
            have HA1 := Lib.hid ((HI.out L[jj] (List.getElem_mem hjL)).below HBz.out)
            have HA2 := Lib.hid ((HI.out L[k] (List.getElem_mem hlt)).below HBz.out)
            obtain ⟨u, hu⟩ : ∃ u, u = L[jj] := ⟨_, rfl⟩
            obtain ⟨x, hx⟩ : ∃ x, x = L[k] := ⟨_, rfl⟩
            rw [← hu] at p0 p1 p2 p3 p4 p5 p6 p7 p8 p9 HA1 HDN
            rw [← hx] at q0 q1 q2 q3 q4 q5 q6 q7 q8 q9 HA2 HDN
            clear hu hx y7
            cases dj with
            | true =>
              have HR : Hid ((disp L k || dispIn L k (jj + 1)) = true) := by
                show _ = _
                have h1 := HDJ.out
                rw [HDN.out, ← Bool.or_assoc, h1]
                rfl
              go_wp2_with fail
              refine wp_region_bw2 (by kernel_rfl) (by kernel_rfl) (fun hbwc => ?_)
              repeat (go_big_quiet_step (fail))
              refine wpQuiet_nil ?_
              clear hbwc
              intro w3 hb
              have HB3 := Lib.hid (HB9.out.trans ((show Below (w.heap.size + 1) wr _ from (by (repeat (first | exact Below.refl _ _ | assumption | refine below_drewN ?_ _ | refine Below.drew ?_ | refine Below.setCell ?_ (by first | omega | (simp; done) | (simp; omega)) _ | refine Below.alloc ?_ (by first | omega | (simp; done) | (simp; omega)) _)))).trans (hb.mono (by first | omega | (simp; done) | (simp; omega)))))
              clear hb
              go_wp2_with fail
              go_roundw
              case rel => exact ⟨jj + 1, true, by omega, HR, rfl, by go_num, HB3.out⟩
              case measure => simp [intOf]; omega
            | false =>
              cases hv : (u.n.a.ver == x.n.a.ver) with
              | false =>
                have HR : Hid ((disp L k || dispIn L k (jj + 1)) = false) := by
                  show _ = _
                  have h1 := HDJ.out
                  rw [HDN.out, ← Bool.or_assoc, h1]
                  simp [clash, hv]
                go_wp2_with fail
                refine wp_region_bw2 (by kernel_rfl) (by kernel_rfl) (fun hbwc => ?_)
                repeat (go_big_quiet_step (fail))
                refine wpQuiet_nil ?_
                clear hbwc
                intro w3 hb
                have HB3 := Lib.hid (HB9.out.trans ((show Below (w.heap.size + 1) wr _ from (by (repeat (first | exact Below.refl _ _ | assumption | refine below_drewN ?_ _ | refine Below.drew ?_ | refine Below.setCell ?_ (by first | omega | (simp; done) | (simp; omega)) _ | refine Below.alloc ?_ (by first | omega | (simp; done) | (simp; omega)) _)))).trans (hb.mono (by first | omega | (simp; done) | (simp; omega)))))
                clear hb
                go_wp2_with fail
                go_roundw
                case rel => exact ⟨jj + 1, false, by omega, HR, rfl, by go_num, HB3.out⟩
                case measure => simp [intOf]; omega
              | true =>
                obtain ⟨sv, hsv⟩ : ∃ v, sameB u.n.a x.n.a = v := ⟨_, rfl⟩
                have HSB := Lib.hid hsv
                have HR : Hid ((disp L k || dispIn L k (jj + 1)) = !sv) := by
                  show _ = _
                  have h1 := HDJ.out
                  rw [HDN.out, ← Bool.or_assoc, h1]
                  simp [clash, hv, hsv]
                clear hsv
                go_wp2_with fail
                refine wp_region_bw2 (by kernel_rfl) (by kernel_rfl) (fun hbwc => ?_)
                repeat (go_big_quiet_step ((go_at_call 78; exact bwCall (rSame_is u.n.a x.n.a u.A u.c x.A x.c _ (AIn.below (AIn.below HA1.out.al (by (repeat (first | exact Below.refl _ _ | assumption | refine below_drewN ?_ _ | refine Below.drew ?_ | refine Below.setCell ?_ (by first | omega | (simp; done) | (simp; omega)) _ | refine Below.alloc ?_ (by first | omega | (simp; done) | (simp; omega)) _)))) (BW.below _)) (AIn.below (AIn.below HA2.out.al (by (repeat (first | exact Below.refl _ _ | assumption | refine below_drewN ?_ _ | refine Below.drew ?_ | refine Below.setCell ?_ (by first | omega | (simp; done) | (simp; omega)) _ | refine Below.alloc ?_ (by first | omega | (simp; done) | (simp; omega)) _)))) (BW.below _)) sv HSB.out))))
                refine wpQuiet_nil ?_
                clear hbwc
                intro w3 hb
                have HB3 := Lib.hid (HB9.out.trans ((show Below (w.heap.size + 1) wr _ from (by (repeat (first | exact Below.refl _ _ | assumption | refine below_drewN ?_ _ | refine Below.drew ?_ | refine Below.setCell ?_ (by first | omega | (simp; done) | (simp; omega)) _ | refine Below.alloc ?_ (by first | omega | (simp; done) | (simp; omega)) _)))).trans (hb.mono (by first | omega | (simp; done) | (simp; omega)))))
                clear hb
                go_wp2_with fail
                go_roundw
                case rel => exact ⟨jj + 1, !sv, by omega, HR, rfl, by go_num, HB3.out⟩
                case measure => simp [intOf]; omega
          · obtain rfl : jj = k := by omega
            have hbL : bv < L.length := by omega
            have hver : bestI L (jj + 1) = if L[bv].n.a.ver < L[jj].n.a.ver then jj else bv := by
              have : bestI L (jj + 1) = if verAt L (bestI L jj) < verAt L jj then jj else bestI L jj := rfl
              rw [this, HB0.out, verAt_eq hbL, verAt_eq hlt]
            obtain ⟨b1, o1, e1, hb1, p0, p1, p2, p3, p4, p5, p6, p7, p8, p9⟩ := (HL.out.below HBz.out).it_at hbL
            obtain ⟨b2, o2, e2, hb2, q0, q1, q2, q3, q4, q5, q6, q7, q8, q9⟩ := (HL.out.below HBz.out).it_at hlt
            cases e1
            cases e2
            have hnb3 : nb < wr.heap.size := by omega
            have j0 : (0 : Int) ≤ (bv : Int) := by omega
            have j1 : (bv : Int) < (L.length : Int) := by omega
            clear y7 p0 p2 p3 p4 p5 p6 p7 p8 p9 q0 q2 q3 q4 q5 q6 q7 q8 q9
            have HVE := Lib.hid hver
            clear hver
            cases ht : decide (L[bv].n.a.ver < L[jj].n.a.ver) with
            | true =>
              have ht2 := of_decide_eq_true ht
              have HBN : Hid (bestI L (jj + 1) = jj) := by show _ = _; rw [HVE.out, if_pos ht2]
              go_wp2_with fail
              refine wp_region_bw2 (by kernel_rfl) (by kernel_rfl) (fun hbwc => ?_)
              repeat (go_big_quiet_step (fail))
              refine wpQuiet_nil ?_
              clear hbwc
              intro w3 hb
              have HB3 := Lib.hid (HB9.out.trans ((show Below (w.heap.size + 1) wr _ from (by (repeat (first | exact Below.refl _ _ | assumption | refine below_drewN ?_ _ | refine Below.drew ?_ | refine Below.setCell ?_ (by first | omega | (simp; done) | (simp; omega)) _ | refine Below.alloc ?_ (by first | omega | (simp; done) | (simp; omega)) _)))).trans (hb.mono (by first | omega | (simp; done) | (simp; omega)))))
              clear hb
              go_wp2_with fail
              go_roundw
              case rel => exact ⟨jj + 1, dj, jj, by omega, HWN, HDJ, HBN, rfl, rfl, by go_num, HB3.out⟩
              case measure => simp [intOf]; omega
            | false =>
              have ht2 := of_decide_eq_false ht
              have ht3 : L[jj].n.a.ver ≤ L[bv].n.a.ver := by omega
              have HBN : Hid (bestI L (jj + 1) = bv) := by show _ = _; rw [HVE.out, if_neg ht2]
              clear ht2
              go_wp2_with fail
              refine wp_region_bw2 (by kernel_rfl) (by kernel_rfl) (fun hbwc => ?_)
              repeat (go_big_quiet_step (fail))
              refine wpQuiet_nil ?_
              clear hbwc
              intro w3 hb
              have HB3 := Lib.hid (HB9.out.trans ((show Below (w.heap.size + 1) wr _ from (by (repeat (first | exact Below.refl _ _ | assumption | refine below_drewN ?_ _ | refine Below.drew ?_ | refine Below.setCell ?_ (by first | omega | (simp; done) | (simp; omega)) _ | refine Below.alloc ?_ (by first | omega | (simp; done) | (simp; omega)) _)))).trans (hb.mono (by first | omega | (simp; done) | (simp; omega)))))
              clear hb
              go_wp2_with fail
              go_roundw
              case rel => exact ⟨jj + 1, dj, bv, by omega, HWN, HDJ, HBN, rfl, rfl, by go_num, HB3.out⟩
              case measure => simp [intOf]; omega
    · obtain rfl : k = L.length := by omega
      have HAN := Lib.hid (any_end HW.out)
      cases dv with
      | true =>
        go_wp2_with fail
        have HS9 : Hid (s = ⟨ev, 3, 0, 0⟩) := by show _ = _; rw [← HSV.out]; unfold standS; rw [if_neg (by rw [HAN.out]; simp), if_pos HD.out]
        refine finCells (w := wr) (w.heap.size) (⟨ev, 3, 0, 0⟩ : Std).lst (.agg (⟨ev, 3, 0, 0⟩ : Std).lst.toArray) rfl ?_ ?_ ⟨by rw [HS9.out], below_setCells (by omega) _ _ _ _ HB.out⟩
        · intro W hW
          have r0 := hW 0 (show 0 < 4 by decide)
          have r1 := hW 1 (show 1 < 4 by decide)
          have r2 := hW 2 (show 2 < 4 by decide)
          have r3 := hW 3 (show 3 < 4 by decide)
          clear hW
          simp only [Std.lst, List.getElem_cons_zero, List.getElem_cons_succ] at r0 r1 r2 r3
          simp [results, Tryz.results65, go_sem, r0, r1, r2, r3, Std.lst]
        · refine lt4 ?_
          simp [go_sem, c0, c1, c2, c3]
      | false =>
        have hbL : bv < L.length := by rw [← HB0.out]; exact bestI_lt L _ hne
        obtain ⟨nb, off, rfl, hnb, y0, y1, y2, y3, y4, y5, y6, y7, y8, y9⟩ := (HL.out.below HB.out).it_at hbL
        have hnb3 : nb < wr.heap.size := by omega
        have j0 : (0 : Int) ≤ (bv : Int) := by omega
        have j1 : (bv : Int) < (L.length : Int) := by omega
        have HA := Lib.hid ((HI.out L[bv] (List.getElem_mem hbL)).below HB.out)
        have HKO := Lib.hid (HK.out L[bv] (List.getElem_mem hbL))
        have HS8 : Hid (s = ⟨ev, 1, L[bv].n.a.ver, digA L[bv].n.a⟩) := by
          show _ = _
          rw [← HSV.out]
          unfold standS
          rw [if_neg (by rw [HAN.out]; simp), if_neg (by rw [HD.out]; simp), HB0.out, List.getElem?_eq_getElem hbL]
        obtain ⟨x, hx⟩ : ∃ x, x = L[bv] := ⟨_, rfl⟩
        rw [← hx] at y0 y1 y2 y3 y4 y5 y6 y7 y8 y9 HA HKO HS8
        clear hx
        obtain ⟨dg, hdg⟩ : ∃ v, digA x.n.a = v := ⟨_, rfl⟩
        rw [hdg] at HS8
        have HDG := Lib.hid hdg
        clear hdg
        go_wp2_with fail
        refine wp_region_bwt 14 (by kernel_rfl) (by kernel_rfl) (fun hbwc => ?_)
        simp only [List.take_succ_cons, List.take_zero, List.drop_succ_cons, List.drop_zero]
        repeat (go_big_quiet_step ((go_at_call 89; exact bwCall (rdigest_is x.n.a x.A x.c _ dg HDG.out HKO.out (AIn.below (AIn.below HA.out.al (by (repeat (first | exact Below.refl _ _ | assumption | refine below_drewN ?_ _ | refine Below.drew ?_ | refine Below.setCell ?_ (by first | omega | (simp; done) | (simp; omega)) _ | refine Below.alloc ?_ (by first | omega | (simp; done) | (simp; omega)) _)))) (BW.below _))))))
        refine wpQuiet_nil ?_
        clear hbwc
        intro w3 hb
        have HB3 : Hid (Below w.heap.size w w3) := HB.out.trans ((show Below w.heap.size wr _ from (by (repeat (first | exact Below.refl _ _ | assumption | refine below_drewN ?_ _ | refine Below.drew ?_ | refine Below.setCell ?_ (by first | omega | (simp; done) | (simp; omega)) _ | refine Below.alloc ?_ (by first | omega | (simp; done) | (simp; omega)) _)))).trans (hb.mono (by first | omega | (simp; done) | (simp; omega))))
        have hb3 := hb
        obtain ⟨hcw3, hfw3⟩ := bcell hb
        clear hb
        go_wp2_with fail
        have HS9 : Hid (s = ⟨ev, 1, x.n.a.ver, dg⟩) := HS8
        refine finCells (w := w3) (w.heap.size) (⟨ev, 1, x.n.a.ver, dg⟩ : Std).lst (.agg (⟨ev, 1, x.n.a.ver, dg⟩ : Std).lst.toArray) rfl ?_ ?_ ⟨by rw [HS9.out], below_setCells (by omega) _ _ _ _ HB3.out⟩
        · intro W hW
          have r0 := hW 0 (show 0 < 4 by decide)
          have r1 := hW 1 (show 1 < 4 by decide)
          have r2 := hW 2 (show 2 < 4 by decide)
          have r3 := hW 3 (show 3 < 4 by decide)
          clear hW
          simp only [Std.lst, List.getElem_cons_zero, List.getElem_cons_succ] at r0 r1 r2 r3
          simp [results, Tryz.results65, go_sem, r0, r1, r2, r3, Std.lst]
        · refine lt4 ?_
          simp [go_sem, hcw3, lw, c0, c1, c2, c3]
end Go.Proofs.YtohfofecbdfkgaaGreatDoor

/-
  The walk of sameAlerts, of lists that are equal.
-/
namespace Go.Proofs.YtohfofecbdfkgaaGreatDoor
open Go.RowKit Al

def SaRel (n : Nat) (w : World) (i : Value) (wr : World) : Prop := ∃ k : Nat, k ≤ n ∧ i = .int .i64 k ∧ Below w.heap.size w wr
end Go.Proofs.YtohfofecbdfkgaaGreatDoor

/-
  The walk of Force, of the program.
-/
namespace Go.Proofs.YtohfofecbdfkgaaGreatDoor
open Go.RowKit Al
attribute [local go_sem ↓] Go.wp_at_zero Go.wp_at_succ

/-- What Force returns. -/
def forceR (ns : List Ntc) (s : List UInt8) : Alr × Int := match lastOf ns s with
  | none => (Al.zero, 4)
  | some x => if x.wd then (Al.zero, 107) else (x, 0)
theorem zero4 (w W : World) {k : Int} (h : Below w.heap.size w W) : OwnT w.heap.size Al.zero k w (.returned (.tuple #[Al.zero.val none 0, .int .i64 k])) W := ⟨none, 0, rfl, zero_row _ _, h⟩

set_option maxRecDepth 100000 in
set_option maxHeartbeats 4000000 in
theorem force_n (b mb : Nat) (ev : ByteArray) (w : World) (c3 : w.cell? ⟨b, 3, none⟩ = some (.map (some mb))) (hlt : b < w.heap.size)
    (hlk : ∀ W, Below w.heap.size w W → (Instr.lookup 100 (.map (some mb)) (.string ev) true).run Tryz.prog W = .ok (.tuple #[(Al.zero).val none 0, .bool false]) W) :
    Calls Tryz.prog 21 #[.pointer (some ⟨b, 0, none⟩), .string ev] w (OwnT w.heap.size Al.zero 4 w) := by
  have HL := Lib.hid hlk
  have hlt2 : b < w.heap.size + 1 := by omega
  have hl1 : (Instr.lookup 100 (.map (some mb)) (.string ev) true).run Tryz.prog (w.alloc (.cells #[.string ⟨#[]⟩, .int .i64 0, .int .i64 0, .int .i64 0, .int .i64 0, .int .i64 0, .slice none 0 0, .bool false, .int .i64 0] 48)) = .ok (.tuple #[(Al.zero).val none 0, .bool false]) (w.alloc (.cells #[.string ⟨#[]⟩, .int .i64 0, .int .i64 0, .int .i64 0, .int .i64 0, .int .i64 0, .slice none 0 0, .bool false, .int .i64 0] 48)) := hlk _ (by (repeat (first | exact Below.refl _ _ | assumption | refine below_drewN ?_ _ | refine Below.drew ?_ | refine Below.setCell ?_ (by first | omega | (simp; done) | (simp; omega)) _ | refine Below.alloc ?_ (by first | omega | (simp; done) | (simp; omega)) _)))
  clear hlk
  have hz4 : w.heap.size < w.heap.size + 1 := by omega
  have hz5 : w.heap.size < w.heap.size + 1 + 1 := by omega
  have hz6 : w.heap.size + 1 < w.heap.size + 1 + 1 := by omega
  go_enter Tryz.func21, Tryz.ntmps21
  go_wp2_with (go_at_call 57; refine (none_ b mb _ (by simp [go_sem, hlt, c3])).mono ?_; rintro e w' ⟨rfl, rfl⟩)
  exact bodyPost_ret (v := .tuple #[Al.zero.val none 0, .int .i64 4]) (by simp [results, Tryz.results21, go_sem, Al.zero]) rfl (zero4 _ _ (by (repeat (first | exact Below.refl _ _ | assumption | refine below_drewN ?_ _ | refine Below.drew ?_ | refine Below.setCell ?_ (by first | omega | (simp; done) | (simp; omega)) _ | refine Below.alloc ?_ (by first | omega | (simp; done) | (simp; omega)) _))))

set_option maxRecDepth 100000 in
set_option maxHeartbeats 4000000 in
theorem force_w (b mb : Nat) (ev : ByteArray) (x : Alr) (XA : Option Addr) (xc : Nat) (w : World) (c3 : w.cell? ⟨b, 3, none⟩ = some (.map (some mb))) (hlt : b < w.heap.size)
    (hlk : ∀ W, Below w.heap.size w W → (Instr.lookup 100 (.map (some mb)) (.string ev) true).run Tryz.prog W = .ok (.tuple #[(x).val XA xc, .bool true]) W) (hw : x.wd = true) :
    Calls Tryz.prog 21 #[.pointer (some ⟨b, 0, none⟩), .string ev] w (OwnT w.heap.size Al.zero 107 w) := by
  have HL := Lib.hid hlk
  have hlt2 : b < w.heap.size + 1 := by omega
  have hl1 : (Instr.lookup 100 (.map (some mb)) (.string ev) true).run Tryz.prog (w.alloc (.cells #[.string ⟨#[]⟩, .int .i64 0, .int .i64 0, .int .i64 0, .int .i64 0, .int .i64 0, .slice none 0 0, .bool false, .int .i64 0] 48)) = .ok (.tuple #[(x).val XA xc, .bool true]) (w.alloc (.cells #[.string ⟨#[]⟩, .int .i64 0, .int .i64 0, .int .i64 0, .int .i64 0, .int .i64 0, .slice none 0 0, .bool false, .int .i64 0] 48)) := hlk _ (by (repeat (first | exact Below.refl _ _ | assumption | refine below_drewN ?_ _ | refine Below.drew ?_ | refine Below.setCell ?_ (by first | omega | (simp; done) | (simp; omega)) _ | refine Below.alloc ?_ (by first | omega | (simp; done) | (simp; omega)) _)))
  clear hlk
  have hz4 : w.heap.size < w.heap.size + 1 := by omega
  have hz5 : w.heap.size < w.heap.size + 1 + 1 := by omega
  have hz6 : w.heap.size + 1 < w.heap.size + 1 + 1 := by omega
  go_enter Tryz.func21, Tryz.ntmps21
  go_wp2_with (go_at_call 57; refine (none_ b mb _ (by simp [go_sem, hlt, c3])).mono ?_; rintro e w' ⟨rfl, rfl⟩)
  exact bodyPost_ret (v := .tuple #[Al.zero.val none 0, .int .i64 107]) (by simp [results, Tryz.results21, go_sem, Al.zero]) rfl (zero4 _ _ (by (repeat (first | exact Below.refl _ _ | assumption | refine below_drewN ?_ _ | refine Below.drew ?_ | refine Below.setCell ?_ (by first | omega | (simp; done) | (simp; omega)) _ | refine Below.alloc ?_ (by first | omega | (simp; done) | (simp; omega)) _))))

set_option maxRecDepth 100000 in
set_option maxHeartbeats 4000000 in
theorem force_y (b mb : Nat) (ev : ByteArray) (x : Alr) (XA : Option Addr) (xc : Nat) (w : World) (c3 : w.cell? ⟨b, 3, none⟩ = some (.map (some mb))) (hlt : b < w.heap.size)
    (hlk : ∀ W, Below w.heap.size w W → (Instr.lookup 100 (.map (some mb)) (.string ev) true).run Tryz.prog W = .ok (.tuple #[(x).val XA xc, .bool true]) W) (hw : x.wd = false) (hin : AIn w x XA xc) (hb8 : x.cells.length * 8 ≤ 140737488355328) :
    Calls Tryz.prog 21 #[.pointer (some ⟨b, 0, none⟩), .string ev] w (OwnT w.heap.size x 0 w) := by
  obtain ⟨xe, xv, xt, xn, xo, xg, xcs, xw, xb⟩ := x
  have hw' : xw = false := hw
  clear hw
  subst hw'
  have HL := Lib.hid hlk
  have hlt2 : b < w.heap.size + 1 := by omega
  have hl1 : (Instr.lookup 100 (.map (some mb)) (.string ev) true).run Tryz.prog (w.alloc (.cells #[.string ⟨#[]⟩, .int .i64 0, .int .i64 0, .int .i64 0, .int .i64 0, .int .i64 0, .slice none 0 0, .bool false, .int .i64 0] 48)) = .ok (.tuple #[((⟨xe, xv, xt, xn, xo, xg, xcs, false, xb⟩ : Alr)).val XA xc, .bool true]) (w.alloc (.cells #[.string ⟨#[]⟩, .int .i64 0, .int .i64 0, .int .i64 0, .int .i64 0, .int .i64 0, .slice none 0 0, .bool false, .int .i64 0] 48)) := hlk _ (by (repeat (first | exact Below.refl _ _ | assumption | refine below_drewN ?_ _ | refine Below.drew ?_ | refine Below.setCell ?_ (by first | omega | (simp; done) | (simp; omega)) _ | refine Below.alloc ?_ (by first | omega | (simp; done) | (simp; omega)) _)))
  clear hlk
  have hz4 : w.heap.size < w.heap.size + 1 := by omega
  have hz5 : w.heap.size < w.heap.size + 1 + 1 := by omega
  have hz6 : w.heap.size + 1 < w.heap.size + 1 + 1 := by omega
  go_enter Tryz.func21, Tryz.ntmps21
  go_wp2_with (go_at_call 57; refine (none_ b mb _ (by simp [go_sem, hlt, c3])).mono ?_; rintro e w' ⟨rfl, rfl⟩)
  refine (copied_ (⟨xe, xv, xt, xn, xo, xg, xcs, false, xb⟩ : Alr) XA xc _ (hin.below (by (repeat (first | exact Below.refl _ _ | assumption | refine below_drewN ?_ _ | refine Below.drew ?_ | refine Below.setCell ?_ (by first | omega | (simp; done) | (simp; omega)) _ | refine Below.alloc ?_ (by first | omega | (simp; done) | (simp; omega)) _)))) hb8).mono ?_
  rintro e w2 ⟨A', c', rfl, hown, hbw⟩
  obtain ⟨hcw2, hfw2⟩ := bcell hbw
  have HB := Lib.hid ((show Below w.heap.size w _ from by (repeat (first | exact Below.refl _ _ | assumption | refine below_drewN ?_ _ | refine Below.drew ?_ | refine Below.setCell ?_ (by first | omega | (simp; done) | (simp; omega)) _ | refine Below.alloc ?_ (by first | omega | (simp; done) | (simp; omega)) _))).trans (hbw.mono (by first | omega | (simp; done) | (simp; omega))))
  have HO := Lib.hid hown
  have hz2 := hbw.size
  simp at hz2
  clear hbw hown
  have hz7 : w.heap.size < w2.heap.size := by omega
  go_wp2_with fail
  refine finCells (w := w2) (w.heap.size) ((⟨xe, xv, xt, xn, xo, xg, xcs, false, xb⟩ : Alr).lst A' c') (.tuple #[(⟨xe, xv, xt, xn, xo, xg, xcs, false, xb⟩ : Alr).val A' c', .int .i64 0]) rfl ?_ ?_ (show OwnT w.heap.size (⟨xe, xv, xt, xn, xo, xg, xcs, false, xb⟩ : Alr) 0 w _ _ from ⟨A', c', rfl, ?_, ?_⟩)
  · intro W hW
    have r0 := hW 0 (by simp)
    have r1 := hW 1 (by simp)
    have r2 := hW 2 (by simp)
    have r3 := hW 3 (by simp)
    have r4 := hW 4 (by simp)
    have r5 := hW 5 (by simp)
    have r6 := hW 6 (by simp)
    have r7 := hW 7 (by simp)
    have r8 := hW 8 (by simp)
    clear hW
    simp only [List.getElem_cons_zero, List.getElem_cons_succ] at r0 r1 r2 r3 r4 r5 r6 r7 r8
    simp [results, Tryz.results21, go_sem, r0, r1, r2, r3, r4, r5, r6, r7, r8]
  · refine lt9 ?_
    simp [go_sem, hcw2]
  · refine own_more (base := w.heap.size + 1 + 1) (own_setCells ?_ _ _ _ ?_) ?_
    · omega
    · have := HO.out
      simp at this
      exact this
    · omega
  · exact below_setCells (by omega) _ _ _ _ HB.out

theorem Force_ (S : Nat → Prop) (b : Nat) (ks : List (Int × Int)) (q : Int) (ns : List Ntc) (ev : ByteArray) (w : World) (x : Alr) (k : Int) (hv : forceR ns ev.data.toList = (x, k)) (hs : ev.size ≤ maxLen) (h : Bd w S b ks q ns) :
    Calls Tryz.prog 21 #[.pointer (some ⟨b, 0, none⟩), .string ev] w (OwnT w.heap.size x k w) := by
  obtain ⟨R, K, kc, L, N, nc, mb, G, h, rfl, _⟩ := h
  have hl : ∀ W, Below w.heap.size w W → _ := fun W hb => (h.map.keep (F := fun _ => False) (Kp.of_below hb) (fun f => f)).look hs
  have hg := h.gl ev.data.toList
  unfold forceR at hv
  rw [← hg] at hv
  cases hG : G ev.data.toList with
  | none =>
    rw [hG] at hv
    cases hv
    refine force_n b mb ev w h.c3 h.lt.1 fun W hb => ?_
    have := hl W hb
    rw [hG] at this
    exact this
  | some y =>
    obtain ⟨y, YA, yc⟩ := y
    have hy := h.gs _ _ hG
    rw [hG] at hv
    have hv' : (if y.wd then (Al.zero, 107) else (y, 0)) = (x, k) := hv
    have hl' : ∀ W, Below w.heap.size w W → (Instr.lookup 100 (.map (some mb)) (.string ev) true).run Tryz.prog W = .ok (.tuple #[y.val YA yc, .bool true]) W := fun W hb => by
      have := hl W hb
      rw [hG] at this
      exact this
    cases hw : y.wd with
    | true =>
      rw [hw] at hv'
      cases hv'
      exact force_w b mb ev y YA yc w h.c3 h.lt.1 hl' hw
    | false =>
      rw [hw] at hv'
      cases hv'
      exact force_y b mb ev _ YA yc w h.c3 h.lt.1 hl' hw ⟨okA_ev hy.1, hy.2.sl⟩ (okA_short hy.1)
set_option maxRecDepth 100000 in
theorem force_zero (b : Nat) (ev : ByteArray) (w : World) (c3 : w.cell? ⟨b, 3, none⟩ = some (.map none)) (hlt : b < w.heap.size) :
    Calls Tryz.prog 21 #[.pointer (some ⟨b, 0, none⟩), .string ev] w (OwnT w.heap.size Al.zero 1 w) := by
  go_enter Tryz.func21, Tryz.ntmps21
  go_wp2_with (go_at_call 57; refine (none_zero b _ (by simp [go_sem, hlt, c3])).mono ?_; rintro e w' ⟨rfl, rfl⟩)
  exact bodyPost_ret (v := .tuple #[Al.zero.val none 0, .int .i64 1]) (by simp [results, Tryz.results21, go_sem, Al.zero]) rfl (zero4 _ _ (by (repeat (first | exact Below.refl _ _ | assumption | refine below_drewN ?_ _ | refine Below.drew ?_ | refine Below.setCell ?_ (by first | omega | (simp; done) | (simp; omega)) _ | refine Below.alloc ?_ (by first | omega | (simp; done) | (simp; omega)) _))))
end Go.Proofs.YtohfofecbdfkgaaGreatDoor

/-
  Lists of alerts in memory, boards between calls: what the laws on boards carry.
-/
namespace Go.Proofs.YtohfofecbdfkgaaGreatDoor
open Go.RowKit Al

/-- A list of alerts that lies in blocks from lo on. -/
structure AsIn (w : World) (lo : Nat) (L : List Ia) (P : Option Addr) (pc : Nat) : Prop where
  row : w.ownsRow lo 48 9 (.slice P L.length pc) L.length (iaCells L)
  its : ∀ x ∈ L, SlR w (fun i => lo ≤ i) 1 x.A x.a.cells.length x.c (ints x.a.cells)
  ok : ∀ x ∈ L, okA x.a = true
theorem AsIn.keep {w w' : World} {lo : Nat} {L : List Ia} {P : Option Addr} {pc : Nat} {F : Nat → Prop} (h : AsIn w lo L P pc) (k : Kp F w w') (hF : ∀ i, lo ≤ i → ¬ F i) : AsIn w' lo L P pc :=
  ⟨own_keep h.row k (fun g hg f => hF g (own_lt h.row hg).1 f), fun x hx => (h.its x hx).keep k hF, h.ok⟩
theorem AsIn.below {w w' : World} {lo : Nat} {L : List Ia} {P : Option Addr} {pc : Nat} (h : AsIn w lo L P pc) (hb : Below w.heap.size w w') : AsIn w' lo L P pc := h.keep (F := fun _ => False) (Kp.of_below hb) (fun _ _ f => f)
theorem AsIn.sl {w : World} {lo : Nat} {L : List Ia} {P : Option Addr} {pc : Nat} (h : AsIn w lo L P pc) : Sl w w.heap.size 9 P L.length pc (iaCells L) := Sl.of_own h.row
theorem AsIn.al {w : World} {lo : Nat} {L : List Ia} {P : Option Addr} {pc : Nat} (h : AsIn w lo L P pc) {x : Ia} (hx : x ∈ L) : AIn w x.a x.A x.c := ⟨okA_ev (h.ok x hx), (h.its x hx).sl⟩
theorem AsIn.cap {w : World} {lo : Nat} {L : List Ia} {P : Option Addr} {pc : Nat} (h : AsIn w lo L P pc) : L.length ≤ pc := h.sl.cap
theorem AsIn.slTake {w : World} {lo : Nat} {L : List Ia} {P : Option Addr} {pc : Nat} (h : AsIn w lo L P pc) (m : Nat) (hm : m ≤ L.length) : Sl w w.heap.size 9 P (L.take m).length pc (iaCells (L.take m)) := by
  rw [iaCells_take, List.length_take, Nat.min_eq_left hm]
  exact h.sl.cut hm
theorem hist_few (ns : List Ntc) (s : List UInt8) : (hist ns s).length ≤ ns.length := by
  unfold hist
  exact Nat.le_trans (List.length_filter_le _ _) (by simp)
theorem Bd.few {w : World} {S : Nat → Prop} {b : Nat} {ks : List (Int × Int)} {q : Int} {ns : List Ntc} (h : Bd w S b ks q ns) : ns.length ≤ 256 := by
  obtain ⟨R, K, kc, L, N, nc, mb, G, h1, rfl, _⟩ := h
  rw [List.length_map]
  exact h1.max
theorem Bd.lt {w : World} {S : Nat → Prop} {b : Nat} {ks : List (Int × Int)} {q : Int} {ns : List Ntc} (h : Bd w S b ks q ns) : b < w.heap.size := by
  obtain ⟨R, K, kc, L, N, nc, mb, G, h1, rfl, _⟩ := h
  exact h1.lt.1
/-- The blocks of a board lie in the world. -/
theorem Bd.cut {w : World} {S : Nat → Prop} {b : Nat} {ks : List (Int × Int)} {q : Int} {ns : List Ntc} (h : Bd w S b ks q ns) : Bd w (fun i => S i ∧ i < w.heap.size) b ks q ns := by
  obtain ⟨R, K, kc, L, N, nc, mb, G, h1, h2, h3⟩ := h
  refine ⟨R, K, kc, L, N, nc, mb, G, h1, h2, fun i hi => ⟨h3 i hi, ?_⟩⟩
  rcases hi with hi | rfl | rfl | ⟨a, ha, rfl⟩
  · exact h1.rl i hi
  · exact h1.lt.1
  · exact h1.lt.2
  · exact (own_lt h1.row (g := a.block) (by rw [ha]; rfl)).2
theorem Bd.below {w w' : World} {S : Nat → Prop} {b : Nat} {ks : List (Int × Int)} {q : Int} {ns : List Ntc} (h : Bd w S b ks q ns) (hb : Below w.heap.size w w') : Bd w' S b ks q ns := h.keep (F := fun _ => False) (Kp.of_below hb) (fun _ _ f => f)

/-- Alerts handed back, as a list in memory. -/
def OwnHs (base : Nat) (l : List Alr) (w : World) (e : Ending) (w' : World) : Prop := ∃ (L : List Ia) (P : Option Addr) (pc : Nat), e = .returned (.slice P L.length pc) ∧ L.map (·.a) = l ∧ AsIn w' base L P pc ∧ Below base w w'
theorem History_ (S : Nat → Prop) (b : Nat) (ks : List (Int × Int)) (q : Int) (ns : List Ntc) (ev : ByteArray) (w : World) (l : List Alr) (hl : hist ns ev.data.toList = l) (hc : Chn l) (h : Bd w S b ks q ns) :
    Calls Tryz.prog 23 #[.pointer (some ⟨b, 0, none⟩), .string ev] w (OwnHs w.heap.size l w) := by
  obtain ⟨R, K, kc, L, N, nc, mb, G, h1, rfl, _⟩ := h
  subst hl
  refine (history_ R b ks q K kc L N nc mb G ev w h1).mono ?_
  rintro e w' ⟨M, P, pc, hM, rfl, hrow, hits, hb⟩
  exact ⟨M, P, pc, rfl, hM, ⟨hrow, hits, fun x hx => hc.ok _ (by rw [← hM]; exact List.mem_map.2 ⟨x, hx, rfl⟩)⟩, hb⟩
/-- Posting to a board between other lists in memory. -/
theorem PostS (S : Nat → Prop) (lo b : Nat) (ks : List (Int × Int)) (q : Int) (ns : List Ntc) (n : Ntc) (A : Option Addr) (c : Nat) (Z : Option Addr) (zc : Nat) (v : Int) (ns' : List Ntc) (w : World) (hv : postE ks q ns n = v) (hn' : postN ks q ns n = ns') (hS : ∀ i, S i → lo ≤ i)
    (h : Bd w S b ks q ns) (hn : NIn w n A c Z zc) (ht : Rdy w) (hna : SlR w (fun i => ¬ lo ≤ i) 1 A n.a.cells.length c (ints n.a.cells)) :
    Calls Tryz.prog 20 #[.pointer (some ⟨b, 0, none⟩), n.val A c Z zc] w fun e w' => e = .returned (.int .i64 v) ∧ Bd w' (fun i => (S i ∨ w.heap.size ≤ i) ∧ i < w'.heap.size) b ks q ns' ∧ Kp S w w' := by
  refine (Post_ S b ks q ns n A c Z zc w h hn ht (hna.mono (fun i hi f => hi (hS i f)))).mono fun e w' hp => ?_
  obtain ⟨h1, h2, h3⟩ := hp
  rw [hv] at h1
  rw [hn'] at h2
  exact ⟨h1, h2.cut, h3⟩
theorem slr_lo {w w' : World} {B lo sz n c : Nat} {A : Option Addr} {xs : List Value} (h : Sl w B sz A n c xs) (hk : Sl w' w'.heap.size sz A n c xs) (hB : B ≤ lo) : SlR w' (fun i => ¬ lo ≤ i) sz A n c xs := slr_lt h hk hB
theorem force_none {ns : List Ntc} {s : List UInt8} (h : hist ns s = []) : forceR ns s = (Al.zero, 4) := by
  unfold forceR
  rw [lastOf_hist, h]
  rfl
theorem force_wd {ns : List Ntc} {s : List UInt8} {l : List Alr} {k : Nat} (h : hist ns s = l) (hl : l.length = k + 1) (hk : k < l.length) (hw : l[k].wd = true) : forceR ns s = (Al.zero, 107) := by
  have hne : l ≠ [] := by intro e; rw [e] at hl; cases hl
  unfold forceR
  rw [lastOf_hist, h, List.getLast?_eq_some_getLast hne, List.getLast_eq_getElem]
  have e : l.length - 1 = k := by omega
  simp [e, hw]
theorem force_ok {ns : List Ntc} {s : List UInt8} {l : List Alr} {k : Nat} (h : hist ns s = l) (hl : l.length = k + 1) (hk : k < l.length) (hw : l[k].wd = false) : forceR ns s = (l[k], 0) := by
  have hne : l ≠ [] := by intro e; rw [e] at hl; cases hl
  unfold forceR
  rw [lastOf_hist, h, List.getLast?_eq_some_getLast hne, List.getLast_eq_getElem]
  have e : l.length - 1 = k := by omega
  simp [e, hw]
end Go.Proofs.YtohfofecbdfkgaaGreatDoor
