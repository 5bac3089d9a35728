/-
  The walk of the program's CheckScopes, for all inputs.
-/
import Derived.Test.YtcclfhdglhbpcaaGreatDoorW25
import Derived.Test.YtcclfhdglhbpcaaGreatDoorW22
import Derived.Deep.DeepCutAuto
namespace Go.Proofs.YtcclfhdglhbpcaaGreatDoor
open Go.RowKit Al

def zB (z : V3) : Bool := mostB z 1000 && nzB z
/-- A telescope by itself; with its zeniths. -/
def csB (m0 : Nat) (x : Scp) : Bool := limB x.fn x.fd && (limB x.ln x.ld && (inB (x.zs.length : Int) 1 8 && ((x.zs.length : Int) == (m0 : Int))))
def csA (m0 : Nat) (x : Scp) : Bool := csB m0 x && x.zs.all zB
def m0L (L : List Scp) : Nat := (L.getD 0 ⟨⟨#[]⟩, 0, 0, 0, 0, [], none, 0⟩).zs.length
def csN (L : List Scp) (b : Bool) (k : Nat) : Bool := b && (L.take k).all (csA (m0L L))
theorem csN_succ (L : List Scp) (b : Bool) {k : Nat} (h : k < L.length) : csN L b (k + 1) = (csN L b k && csA (m0L L) L[k]) := by
  unfold csN
  rw [all_take_succ _ h, Bool.and_assoc]
def scsB (L : List Scp) : Bool := csN L (inB (L.length : Int) 1 4 && namedB (L.map fun x => x.nm.data.toList)) L.length
def scE (L : List Scp) : Int := if scsB L then 0 else 94
theorem scsB_ok {L : List Scp} (h : scsB L = true) (hs : ∀ x ∈ L, x.nm.size ≤ maxLen) : ScsOk L (m0L L) := by
  unfold scsB csN at h
  simp only [Bool.and_eq_true, List.take_length, List.all_eq_true] at h
  obtain ⟨⟨h1, h2⟩, h3⟩ := h
  have h1 := inB_true.1 h1
  refine ⟨by omega, by omega, h2, fun x hx => ?_, hs⟩
  have h4 := h3 x hx
  unfold csA csB at h4
  simp only [Bool.and_eq_true, beq_iff_eq, List.all_eq_true] at h4
  obtain ⟨⟨a, b, c, d⟩, e⟩ := h4
  have c := inB_true.1 c
  refine ⟨a, b, by omega, by omega, by omega, fun z hz => ?_⟩
  have := e z hz
  unfold zB at this
  rw [Bool.and_eq_true] at this
  exact this
def CgRel (L : List Scp) (b : Bool) (w : World) (o i : Value) (wr : World) : Prop := ∃ k : Nat, k ≤ L.length ∧ i = .int .i64 (k : Int) ∧ o = .bool (csN L b k) ∧ Hid (Below w.heap.size w wr)
def ChRel (zs : List V3) (q : Bool) (w : World) (o i : Value) (wr : World) : Prop := ∃ k : Nat, k ≤ zs.length ∧ i = .int .i64 (k : Int) ∧ o = .bool (q && (zs.take k).all zB) ∧ Hid (Below w.heap.size w wr)
set_option maxRecDepth 100000 in
set_option maxHeartbeats 16000000 in
theorem checkScopes_ (L : List Scp) (A : Option Addr) (c : Nat) (w : World) (hL : Sl w w.heap.size 6 A L.length c (scsC L)) (hz : ∀ x ∈ L, Sl w w.heap.size 3 x.ZA x.zs.length x.zc (zsC x.zs)) (hs : ∀ x ∈ L, x.nm.size ≤ maxLen) :
    Calls Tryz.prog 36 #[.slice A L.length c] w fun e w' => e = .returned (.int .i64 (scE L)) ∧ Below w.heap.size w w' := by
  have HL := Lib.hid hL
  have HZ := Lib.hid hz
  have hl : L.length ≤ maxLen := Nat.le_trans hL.cap hL.max
  unfold maxLen at hl
  have HNM := Lib.hid (fun W (hW : Below w.heap.size w W) => namedSc_ L A c W ((hL.below hW).more hW.size) hs)
  obtain ⟨nb, hnb⟩ : ∃ b, namedB (L.map fun x => x.nm.data.toList) = b := ⟨_, rfl⟩
  obtain ⟨ib, hib⟩ : ∃ b, inB (L.length : Int) 1 4 = b := ⟨_, rfl⟩
  rw [hnb] at HNM
  obtain ⟨ok0, hok⟩ : ∃ b, (ib && nb) = b := ⟨_, rfl⟩
  have HE : Hid (scE L = if csN L ok0 L.length then 0 else 94) := by show _ = _; unfold scE scsB; rw [hib, hnb, hok]
  have H0 : Hid (csN L ok0 0 = ok0) := by show _ = _; simp [csN]
  clear hL hz hs hnb
  go_enter Tryz.func36, Tryz.ntmps36
  go_upto_region 1 with fail
  go_cut [3] (fun s3 wx => s3 = .bool ok0 ∧ Below w.heap.size w wx)
  case first =>
    cases ib with
    | false =>
      go_wp2_with (go_at_call 49; refine (swithin_is _ 1 4 _ hib _).mono ?_; rintro e w' ⟨rfl, rfl⟩)
      go_meet
      case rel => exact ⟨by simp [← hok], Below.refl _ _⟩
    | true =>
      go_wp2_with (go_at_call 49; refine (swithin_is _ 1 4 _ hib _).mono ?_; rintro e w' ⟨rfl, rfl⟩)
      refine (HNM.out _ (Below.refl _ _)).mono ?_
      rintro e w1 ⟨rfl, hb⟩
      have HB1 := Lib.hid hb
      clear hb
      go_wp2_with fail
      go_meet
      case rel => exact ⟨by simp [← hok], HB1.out⟩
  case rest =>
    obtain ⟨rfl, hb⟩ := hcut
    rename World => w1
    have HB1 := Lib.hid hb
    clear hb hok hib HNM
    go_wp2_with fail
    go_loopw [3, 18] (fun o i wr => CgRel L ok0 w o i wr) (fun _ i _ => L.length - (intOf i).toNat)
    case atStart => exact ⟨0, Nat.zero_le _, rfl, by rw [H0.out], HB1⟩
    case round =>
      obtain ⟨k, hk, rfl, rfl, HB⟩ := hrel
      have hsz := HB.out.size
      by_cases hlt : k < L.length
      · obtain ⟨tb, tof, he, htb, c0, c1, c2, c3, c4, c5⟩ := (HL.out.below HB.out).sc_at hlt
        subst he
        obtain ⟨sb0, so0, he, hsb0, z0, z1, z2, z3, z4, z5⟩ := (HL.out.below HB.out).sc_at (k := 0) (by omega)
        cases he
        simp only [Nat.zero_mul, Nat.add_zero] at z5
        have hm0 : (L[0]'(by omega)).zs.length = m0L L := by unfold m0L; rw [show L.getD 0 ⟨⟨#[]⟩, 0, 0, 0, 0, [], none, 0⟩ = L[0]'(by omega) by simp [show 0 < L.length by omega]]
        rw [hm0] at z5
        obtain ⟨zA0, hzA0⟩ : ∃ a, (L[0]'(by omega)).ZA = a := ⟨_, rfl⟩
        obtain ⟨zc0, hzc0⟩ : ∃ a, (L[0]'(by omega)).zc = a := ⟨_, rfl⟩
        rw [hzA0, hzc0] at z5
        have HS := Lib.hid (csN_succ L ok0 hlt)
        obtain ⟨x, hx⟩ : ∃ x, L[k] = x := ⟨_, rfl⟩
        have hxm : x ∈ L := by rw [← hx]; exact List.getElem_mem hlt
        have HZX := Lib.hid (((HZ.out x hxm).below HB.out).more hsz)
        rw [hx] at c0 c1 c2 c3 c4 c5 HS
        obtain ⟨m0, hm0'⟩ : ∃ m, m0L L = m := ⟨_, rfl⟩
        rw [hm0'] at z5 HS
        have hlt' : (k : Int) < (L.length : Int) := by omega
        have hL0 : (0 : Int) < (L.length : Int) := by omega
        have htb2 : tb < wr.heap.size := by omega
        obtain ⟨q, hq⟩ : ∃ q, csN L ok0 k = q := ⟨_, rfl⟩
        rw [hq] at HS ⊢
        clear z0 z1 z2 z3 z4 hm0 hzA0 hzc0 hx hxm hm0' hq
        obtain ⟨f1, hf1⟩ : ∃ b, limB x.fn x.fd = b := ⟨_, rfl⟩
        obtain ⟨f2, hf2⟩ : ∃ b, limB x.ln x.ld = b := ⟨_, rfl⟩
        obtain ⟨f3, hf3⟩ : ∃ b, inB (x.zs.length : Int) 1 8 = b := ⟨_, rfl⟩
        obtain ⟨f4, hf4⟩ : ∃ b, ((x.zs.length : Int) == (m0 : Int)) = b := ⟨_, rfl⟩
        have HCS : Hid (csB m0 x = (f1 && (f2 && (f3 && f4)))) := by show _ = _; unfold csB; rw [hf1, hf2, hf3, hf4]
        have HLF := Lib.hid (fun W => limitOK_ x.fn x.fd W)
        have HLL := Lib.hid (fun W => limitOK_ x.ln x.ld W)
        have HLI := Lib.hid (fun W => swithin_is (x.zs.length : Int) 1 8 f3 hf3 W)
        rw [hf1] at HLF
        rw [hf2] at HLL
        have HF4 := Lib.hid hf4
        clear hf1 hf2 hf3
        go_upto_region 5 with fail
        obtain ⟨X, hX⟩ : ∃ X, wr.alloc (.cells #[.string x.nm, .int .i64 x.fn, .int .i64 x.fd, .int .i64 x.ln, .int .i64 x.ld, .slice x.ZA x.zs.length x.zc] 119) = X := ⟨_, rfl⟩
        have HX1 : Hid (Below wr.heap.size wr X) := by show Below _ _ _; rw [← hX]; exact (by repeat (first | exact Below.refl _ _ | assumption | refine below_drewN ?_ _ | refine Below.drew ?_ | refine Below.setCell ?_ (by first | omega | (simp; done) | (simp; omega)) _ | refine Below.alloc ?_ (by first | omega | (simp; done) | (simp; omega)) _))
        have x1 : X.cell? ⟨wr.heap.size, 1, none⟩ = some (.int .i64 x.fn) := by rw [← hX]; simp [go_sem]
        have x2 : X.cell? ⟨wr.heap.size, 2, none⟩ = some (.int .i64 x.fd) := by rw [← hX]; simp [go_sem]
        have x3 : X.cell? ⟨wr.heap.size, 3, none⟩ = some (.int .i64 x.ln) := by rw [← hX]; simp [go_sem]
        have x4 : X.cell? ⟨wr.heap.size, 4, none⟩ = some (.int .i64 x.ld) := by rw [← hX]; simp [go_sem]
        have x5 : X.cell? ⟨wr.heap.size, 5, none⟩ = some (.slice x.ZA x.zs.length x.zc) := by rw [← hX]; simp [go_sem]
        have hXs : wr.heap.size < X.heap.size := by rw [← hX]; simp
        have z6 := (HX1.out.cell (p := ⟨tb, tof + 5, none⟩) htb2).trans z5
        have htbX : tb < X.heap.size := by omega
        rw [hX]
        have HX5 := Lib.hid x5
        clear hX c0 c1 c2 c3 c4 c5 z5
        obtain ⟨xb, hxb⟩ : ∃ b, wr.heap.size = b := ⟨_, rfl⟩
        rw [hxb] at x1 x2 x3 x4 x5 hXs HX5 ⊢
        have hxb2 : wr.heap.size ≤ xb := by omega
        clear hxb
        go_cut [3] (fun s3 wx => s3 = .bool (q && csB m0 x) ∧ Below X.heap.size X wx)
        case first =>
          cases q with
          | false =>
            go_wp2_with fail
            refine wp_region_bw2 (by kernel_rfl) (by kernel_rfl) (fun hbwc => ?_)
            repeat (go_big_quiet_step (fail))
            refine wpQuiet_nil ?_
            clear hbwc
            intro w2 hb
            have HB2 := Lib.hid ((show Below X.heap.size X _ from (by repeat (first | exact Below.refl _ _ | assumption | refine below_drewN ?_ _ | refine Below.drew ?_ | refine Below.setCell ?_ (by first | omega | (simp; done) | (simp; omega)) _ | refine Below.alloc ?_ (by first | omega | (simp; done) | (simp; omega)) _))).trans (hb.mono (by first | omega | (simp; done) | (simp; omega))))
            clear hb
            go_wp2_with fail
            go_meet
            case rel => exact ⟨by rw [HCS.out]; rfl, HB2.out⟩
          | true =>
            cases f1 with
            | false =>
              go_wp2_with fail
              refine wp_region_bw2 (by kernel_rfl) (by kernel_rfl) (fun hbwc => ?_)
              repeat (go_big_quiet_step ((first | (with_reducible exact bwCall (HLF.out _)) | (with_reducible exact bwCall (HLL.out _)) | (with_reducible exact bwSame (HLI.out _)))))
              refine wpQuiet_nil ?_
              clear hbwc
              intro w2 hb
              have HB2 := Lib.hid ((show Below X.heap.size X _ from (by repeat (first | exact Below.refl _ _ | assumption | refine below_drewN ?_ _ | refine Below.drew ?_ | refine Below.setCell ?_ (by first | omega | (simp; done) | (simp; omega)) _ | refine Below.alloc ?_ (by first | omega | (simp; done) | (simp; omega)) _))).trans (hb.mono (by first | omega | (simp; done) | (simp; omega))))
              clear hb
              go_wp2_with fail
              go_meet
              case rel => exact ⟨by rw [HCS.out]; rfl, HB2.out⟩
            | true =>
              cases f2 with
              | false =>
                go_wp2_with fail
                refine wp_region_bw2 (by kernel_rfl) (by kernel_rfl) (fun hbwc => ?_)
                repeat (go_big_quiet_step ((first | (with_reducible exact bwCall (HLF.out _)) | (with_reducible exact bwCall (HLL.out _)) | (with_reducible exact bwSame (HLI.out _)))))
                refine wpQuiet_nil ?_
                clear hbwc
                intro w2 hb
                have HB2 := Lib.hid ((show Below X.heap.size X _ from (by repeat (first | exact Below.refl _ _ | assumption | refine below_drewN ?_ _ | refine Below.drew ?_ | refine Below.setCell ?_ (by first | omega | (simp; done) | (simp; omega)) _ | refine Below.alloc ?_ (by first | omega | (simp; done) | (simp; omega)) _))).trans (hb.mono (by first | omega | (simp; done) | (simp; omega))))
                clear hb
                go_wp2_with fail
                go_meet
                case rel => exact ⟨by rw [HCS.out]; rfl, HB2.out⟩
              | true =>
                cases f3 with
                | false =>
                  go_wp2_with fail
                  refine wp_region_bw2 (by kernel_rfl) (by kernel_rfl) (fun hbwc => ?_)
                  repeat (go_big_quiet_step ((first | (with_reducible exact bwCall (HLF.out _)) | (with_reducible exact bwCall (HLL.out _)) | (with_reducible exact bwSame (HLI.out _)))))
                  refine wpQuiet_nil ?_
                  clear hbwc
                  intro w2 hb
                  have HB2 := Lib.hid ((show Below X.heap.size X _ from (by repeat (first | exact Below.refl _ _ | assumption | refine below_drewN ?_ _ | refine Below.drew ?_ | refine Below.setCell ?_ (by first | omega | (simp; done) | (simp; omega)) _ | refine Below.alloc ?_ (by first | omega | (simp; done) | (simp; omega)) _))).trans (hb.mono (by first | omega | (simp; done) | (simp; omega))))
                  clear hb
                  go_wp2_with fail
                  go_meet
                  case rel => exact ⟨by rw [HCS.out]; rfl, HB2.out⟩
                | true =>
                  go_wp2_with fail
                  refine wp_region_bw2 (by kernel_rfl) (by kernel_rfl) (fun hbwc => ?_)
                  repeat (go_big_quiet_step ((first | (with_reducible exact bwCall (HLF.out _)) | (with_reducible exact bwCall (HLL.out _)) | (with_reducible exact bwSame (HLI.out _)))))
                  refine wpQuiet_nil ?_
                  clear hbwc
                  intro w2 hb
                  have HB2 := Lib.hid ((show Below X.heap.size X _ from (by repeat (first | exact Below.refl _ _ | assumption | refine below_drewN ?_ _ | refine Below.drew ?_ | refine Below.setCell ?_ (by first | omega | (simp; done) | (simp; omega)) _ | refine Below.alloc ?_ (by first | omega | (simp; done) | (simp; omega)) _))).trans (hb.mono (by first | omega | (simp; done) | (simp; omega))))
                  clear hb
                  go_wp2_with fail
                  go_meet
                  case rel => exact ⟨by rw [HCS.out]; first | (rw [← HF4.out]; rfl) | (rw [← HF4.out]; simp) | simp, HB2.out⟩
        case rest =>
          obtain ⟨rfl, hb⟩ := hcut
          rename World => w2
          have HBw2 : Hid (Below w.heap.size w w2) := HB.out.trans ((HX1.out.trans (hb.mono HX1.out.size)).mono hsz)
          have y5 := (hb.cell (p := ⟨xb, 5, none⟩) hXs).trans HX5.out
          have hz2 := hb.size
          have hxw2 : xb < w2.heap.size := by omega
          have HZ2 : Hid (Sl w2 w2.heap.size 3 x.ZA x.zs.length x.zc (zsC x.zs)) := (HZX.out.below (HX1.out.trans (hb.mono HX1.out.size))).more (by have := HX1.out.size; omega)
          obtain ⟨sq, hsq⟩ : ∃ b, (q && csB m0 x) = b := ⟨_, rfl⟩
          have HSQ := Lib.hid hsq
          have hzl : x.zs.length ≤ maxLen := Nat.le_trans HZ2.out.cap HZ2.out.max
          unfold maxLen at hzl
          rw [hsq]
          clear hb hsq x1 x2 x3 x4 x5 z6 hf4
          go_wp2_with fail
          go_loopw [3, 53] (fun o i wr => ChRel x.zs sq w2 o i wr) (fun _ i _ => x.zs.length - (intOf i).toNat)
          case atStart => exact ⟨0, Nat.zero_le _, rfl, by simp, Below.refl _ _⟩
          case round =>
            obtain ⟨j, hj, rfl, rfl, HBj⟩ := hrel
            have hszj := HBj.out.size
            by_cases hjt : j < x.zs.length
            · obtain ⟨zb, zof, hza, hzb, d0, d1, d2⟩ := (HZ2.out.below HBj.out).z_at hjt
              have HZS := Lib.hid (all_take_succ zB hjt)
              obtain ⟨z, hzz⟩ : ∃ z, x.zs[j] = z := ⟨_, rfl⟩
              rw [hzz] at d0 d1 d2 HZS
              have hcz := HZ2.out.cap
              rw [hza]
              clear hzz
              obtain ⟨a, b, cc⟩ := z
              obtain ⟨r, hr⟩ : ∃ r, (sq && (x.zs.take j).all zB) = r := ⟨_, rfl⟩
              have HR := Lib.hid hr
              rw [hr]
              obtain ⟨m1, hm1⟩ : ∃ m, mostB (a, b, cc) 1000 = m := ⟨_, rfl⟩
              obtain ⟨z1, hz1⟩ : ∃ m, (a == 0 && (b == 0 && cc == 0)) = m := ⟨_, rfl⟩
              have HZV : Hid (zB (a, b, cc) = (m1 && !z1)) := by show _ = _; unfold zB nzB; simp only; rw [hm1, hz1]
              have HMO := Lib.hid (fun W => most_ (a, b, cc) 1000 W (w64 (by decide) (by decide)))
              rw [hm1] at HMO
              have HNZ : ∀ W, (Op.equalIn 10000 84 (.agg #[.int .i64 a, .int .i64 b, .int .i64 cc]) (.agg #[.int .i64 0, .int .i64 0, .int .i64 0])).run Tryz.prog W = .ok z1 W := fun W => (run_eql_v3 _ _ _ _ _ _ W).trans (by rw [← hz1])
              have hjt' : (j : Int) < (x.zs.length : Int) := by omega
              have hcz' : (x.zs.length : Int) ≤ (x.zc : Int) := by omega
              have hzb2 : zb < wr.heap.size := by omega
              simp only at d0 d1 d2
              clear hr hm1
              cases r with
              | false =>
                go_wp2_with fail
                go_roundw
                case rel => exact ⟨j + 1, by omega, by go_num, by rw [HZS.out, ← Bool.and_assoc, HR.out]; rfl, Lib.hid (HBj.out.trans (Below.mono (show Below wr.heap.size wr _ from (by repeat (first | exact Below.refl _ _ | assumption | refine below_drewN ?_ _ | refine Below.drew ?_ | refine Below.setCell ?_ (by first | omega | (simp; done) | (simp; omega)) _ | refine Below.alloc ?_ (by first | omega | (simp; done) | (simp; omega)) _))) hszj))⟩
                case measure => simp [intOf]; omega
              | true =>
                go_wp2_with fail
                refine (HMO.out _).mono ?_
                rintro e w3 ⟨rfl, hb⟩
                obtain ⟨hc3, hf3⟩ := bcell hb
                have HB3 : Hid (Below w2.heap.size w2 w3) := HBj.out.trans ((show Below wr.heap.size wr _ from (by repeat (first | exact Below.refl _ _ | assumption | refine below_drewN ?_ _ | refine Below.drew ?_ | refine Below.setCell ?_ (by first | omega | (simp; done) | (simp; omega)) _ | refine Below.alloc ?_ (by first | omega | (simp; done) | (simp; omega)) _))).trans (hb.mono (by first | omega | (simp; done) | (simp; omega))) |>.mono hszj)
                have hz3 := hb.size
                simp at hz3
                have v0 : w3.cell? ⟨wr.heap.size + 1, 0, none⟩ = some (.int .i64 a) := by rw [hc3 _ _ (by simp)]; simp [go_sem]
                have v1 : w3.cell? ⟨wr.heap.size + 1, 1, none⟩ = some (.int .i64 b) := by rw [hc3 _ _ (by simp)]; simp [go_sem]
                have v2 : w3.cell? ⟨wr.heap.size + 1, 2, none⟩ = some (.int .i64 cc) := by rw [hc3 _ _ (by simp)]; simp [go_sem]
                clear hb hc3 hf3
                cases m1 with
                | false =>
                  go_wp2_with fail
                  go_roundw
                  case rel => exact ⟨j + 1, by omega, by go_num, by rw [HZS.out, ← Bool.and_assoc, HR.out, HZV.out]; rfl, HB3⟩
                  case measure => simp [intOf]; omega
                | true =>
                  go_wp2_with fail
                  go_roundw
                  case rel => exact ⟨j + 1, by omega, by go_num, by rw [HZS.out, ← Bool.and_assoc, HR.out, HZV.out]; first | rfl | simp, HB3⟩
                  case measure => simp [intOf]; omega
            · obtain rfl : j = x.zs.length := by omega
              have HBE := Lib.hid (HBw2.out.trans (HBj.out.mono (by have := HBw2.out.size; omega)))
              have HAE : Hid (csN L ok0 (k + 1) = (sq && (x.zs.take x.zs.length).all zB)) := by show _ = _; rw [HS.out, List.take_length]; unfold csA; rw [← Bool.and_assoc, HSQ.out]
              go_wp2_with fail
              go_roundw
              case rel => (first | exact ⟨k + 1, by omega, by go_num, by rw [HAE.out], HBE⟩ | ((repeat apply Exists.intro); refine ⟨⟨k + 1, by omega, by go_num, by rw [HAE.out], HBE⟩, ?_⟩; (repeat refine ⟨rfl, ?_⟩); exact rfl))
              case measure => simp [intOf]; omega
      · obtain rfl : k = L.length := by omega
        cases hn : csN L ok0 L.length with
        | false =>
          have HV : Hid (scE L = 94) := by show _ = _; rw [HE.out, hn]; rfl
          go_wp2_with fail
          go_ret
          exact ⟨by rw [HV.out]; rfl, HB.out⟩
        | true =>
          have HV : Hid (scE L = 0) := by show _ = _; rw [HE.out, hn]; rfl
          go_wp2_with fail
          go_ret
          exact ⟨by rw [HV.out]; rfl, HB.out⟩
end Go.Proofs.YtcclfhdglhbpcaaGreatDoor

/-
  The walks of the program's watching, turn and Sees, for all inputs; slices.Contains and slices.Clone of ints.
-/
namespace Go.Proofs.YtcclfhdglhbpcaaGreatDoor
open Go.RowKit Al

theorem ContainsI_ (l : List Int) (x : Int) (A : Option Addr) (c : Nat) (w : World) (h : Sl w w.heap.size 1 A l.length c (ints l)) :
    Calls Tryz.prog 111 #[.slice A l.length c, .int .i64 x] w fun e w' => e = .returned (.bool (l.contains x)) ∧ w = w' := by
  by_cases hn : 0 < l.length
  · obtain ⟨b, off, rfl, _, hc⟩ := h.at_ hn
    refine (Tryz.slices_Contains_int b off l.length c l x w (Nat.le_refl _) (Nat.le_trans h.cap h.max) (fun j hj => ?_)).mono ?_
    · rw [hc j _ (ints_at hj)]
      simp [List.getD, hj]
    · rintro e w' ⟨rfl, rfl⟩
      rw [List.take_of_length_le (Nat.le_refl _)]
      exact ⟨rfl, rfl⟩
  · have hl : l = [] := List.eq_nil_of_length_eq_zero (by omega)
    subst hl
    refine (Tryz.slices_Contains_int_empty A c x w).mono ?_
    rintro e w' ⟨rfl, rfl⟩
    exact ⟨rfl, rfl⟩
theorem CloneI_ (l : List Int) (A : Option Addr) (c : Nat) (w : World) (h : Sl w w.heap.size 1 A l.length c (ints l)) (hb : l.length * 8 ≤ 140737488355328) :
    Calls Tryz.prog 89 #[.slice A l.length c] w fun e w' => ∃ A' c', e = .returned (.slice A' l.length c') ∧ w'.ownsRow w.heap.size 3 1 (.slice A' l.length c') l.length (ints l) ∧ Below w.heap.size w w' := by
  by_cases hn : 0 < l.length
  · obtain ⟨b, off, rfl, _, hc⟩ := h.at_ hn
    refine (Tryz.slices_Clone_int b off l.length c l w (Nat.le_refl _) hb (fun j hj => ?_)).mono ?_
    · rw [hc j _ (ints_at hj)]
      simp [List.getD, hj]
    · rintro e w' ⟨v', rfl, hown, _, hbw⟩
      obtain ⟨A', c', rfl⟩ := own_form hown
      rw [List.take_of_length_le (Nat.le_refl _)] at hown
      exact ⟨A', c', rfl, hown, hbw⟩
  · have hl : l = [] := List.eq_nil_of_length_eq_zero (by omega)
    subst hl
    cases A with
    | none =>
      refine (Tryz.slices_Clone_int_nil 0 c w).mono ?_
      rintro e w' ⟨rfl, rfl⟩
      exact ⟨none, 0, rfl, World.ownsRow_nil _ _ _ _, Below.refl _ _⟩
    | some ad =>
      refine (Tryz.slices_Clone_int_zero ad c w).mono ?_
      rintro e w' ⟨v', rfl, hown, _, hbw⟩
      obtain ⟨A', c', rfl⟩ := own_form hown
      exact ⟨A', c', rfl, hown, hbw⟩
/-- The first error of telescopes and a grid. -/
def gW (L : List Scp) (n : Int) : Int := if scE L == 0 then (if inB n 1 8 then 0 else 91) else 94
theorem scE_cases (L : List Scp) : scE L = 0 ∨ scE L = 94 := by unfold scE; split <;> simp
theorem gW_ok {L : List Scp} {n : Int} (h : gW L n = 0) : scsB L = true ∧ 1 ≤ n ∧ n ≤ 8 := by
  unfold gW at h
  rcases scE_cases L with h1 | h1
  · rw [h1] at h
    have hb : scsB L = true := by
      unfold scE at h1
      cases hb : scsB L with
      | true => rfl
      | false => rw [hb] at h1; cases h1
    cases hg : inB n 1 8 with
    | true => exact ⟨hb, inB_true.1 hg⟩
    | false => rw [hg] at h; cases h
  · rw [h1] at h; cases h
set_option maxRecDepth 100000 in
theorem watching_e (L : List Scp) (A : Option Addr) (c : Nat) (n v : Int) (w : World) (hv : gW L n = v) (h0 : ¬ v = 0) (hL : Sl w w.heap.size 6 A L.length c (scsC L)) (hz : ∀ x ∈ L, Sl w w.heap.size 3 x.ZA x.zs.length x.zc (zsC x.zs)) (hs : ∀ x ∈ L, x.nm.size ≤ maxLen) :
    Calls Tryz.prog 68 #[.slice A L.length c, .int .i64 n] w fun e w' => e = .returned (.tuple #[.pointer none, .int .i64 v]) ∧ Below w.heap.size w w' := by
  have HC := Lib.hid (checkScopes_ L A c w hL hz hs)
  clear hL hz hs
  rcases scE_cases L with h | h
  · rw [h] at HC
    have hg : inB n 1 8 = false := by
      cases hg : inB n 1 8 with
      | false => rfl
      | true => exact absurd (by rw [← hv]; unfold gW; rw [h, hg]; rfl) h0
    obtain rfl : v = 91 := by rw [← hv]; unfold gW; rw [h, hg]; rfl
    clear h hv h0
    go_enter Tryz.func68, Tryz.ntmps68
    go_wp2_with fail
    refine HC.out.mono ?_
    rintro e w1 ⟨rfl, hb⟩
    have HB := Lib.hid hb
    clear hb
    go_wp2_with (go_at_call 62; refine (skGrid_ _ _).mono ?_; rintro e w' ⟨rfl, rfl⟩; rw [hg])
    go_ret2
    exact ⟨rfl, HB.out⟩
  · rw [h] at HC
    obtain rfl : v = 94 := by rw [← hv]; unfold gW; rw [h]; rfl
    clear h hv h0
    go_enter Tryz.func68, Tryz.ntmps68
    go_wp2_with fail
    refine HC.out.mono ?_
    rintro e w1 ⟨rfl, hb⟩
    have HB := Lib.hid hb
    clear hb
    go_wp2_with fail
    go_ret2
    exact ⟨rfl, HB.out⟩
/-- Are there a turn and a telescope? -/
def turnB (L : List Scp) (t s : Int) : Bool := inB s 0 ((L.length : Int) - 1) && inB t 0 ((m0L L : Int) - 1)
theorem m0L_is {L : List Scp} (h : 0 < L.length) : (L[0]'h).zs.length = m0L L := by unfold m0L; rw [show L.getD 0 ⟨⟨#[]⟩, 0, 0, 0, 0, [], none, 0⟩ = L[0]'h by simp [h]]
set_option maxRecDepth 100000 in
theorem turn_ (R : Nat → Prop) (B0 wb mb : Nat) (LA : Option Addr) (lc : Nat) (L : List Scp) (n : Int) (N : Nat) (f : Fin 32 → Option Value) (t s : Int) (W : World) (hW : WAt W R B0 wb mb LA lc L n N f) (hl : 1 ≤ L.length) (hl4 : L.length ≤ 4) (hm8 : m0L L ≤ 8) :
    Calls Tryz.prog 88 #[.pointer (some ⟨wb, 0, none⟩), .int .i64 t, .int .i64 s] W fun e w' => e = .returned (.bool (turnB L t s)) ∧ W = w' := by
  have c0 := hW.c0
  have hwl := hW.lt
  obtain ⟨sb0, so0, rfl, hsb0, z0, z1, z2, z3, z4, z5⟩ := hW.sl.sc_at (k := 0) hl
  simp only [Nat.zero_mul, Nat.add_zero] at z5
  rw [m0L_is hl] at z5
  have hb0 := hW.b0
  have hsb : sb0 < W.heap.size := by omega
  obtain ⟨zA, hzA⟩ : ∃ a, (L[0]'hl).ZA = a := ⟨_, rfl⟩
  obtain ⟨zc, hzc⟩ : ∃ a, (L[0]'hl).zc = a := ⟨_, rfl⟩
  rw [hzA, hzc] at z5
  obtain ⟨m0, hm0⟩ : ∃ m, m0L L = m := ⟨_, rfl⟩
  rw [hm0] at z5 hm8
  have hL0 : (0 : Int) < (L.length : Int) := by omega
  obtain ⟨b2, hb2⟩ : ∃ b, inB t 0 ((m0 : Int) - 1) = b := ⟨_, rfl⟩
  cases b1 : inB s 0 ((L.length : Int) - 1) with
  | false =>
    have HT : Hid (turnB L t s = false) := by show _ = _; unfold turnB; rw [b1]; rfl
    clear hW z0 z1 z2 z3 z4 hzA hzc hm0
    go_enter Tryz.func88, Tryz.ntmps88
    go_wp2_with (go_at_call 49; refine (swithin_ _ _ _ _).mono ?_; rintro e w' ⟨rfl, rfl⟩; rw [b1])
    go_ret
    exact ⟨ret_bool HT.out.symm, rfl⟩
  | true =>
    have HT : Hid (turnB L t s = b2) := by show _ = _; unfold turnB; rw [b1, hm0, hb2]; rfl
    clear hW z0 z1 z2 z3 z4 hzA hzc hm0
    go_enter Tryz.func88, Tryz.ntmps88
    go_wp2_with (go_at_call 49; refine (swithin_ _ _ _ _).mono ?_; rintro e w' ⟨rfl, rfl⟩; first | rw [b1] | rw [hb2])
    go_ret
    exact ⟨ret_bool HT.out.symm, rfl⟩
def seesE (L : List Scp) (n t s : Int) : Int := if gW L n == 0 then (if turnB L t s then 0 else 94) else gW L n
def scpAt (L : List Scp) (s : Int) : Scp := L.getD s.toNat ⟨⟨#[]⟩, 0, 0, 0, 0, [], none, 0⟩
def seesL (L : List Scp) (n t s : Int) (N : Nat) : List Int := if seesE L n t s = 0 then seesX n N (scpAt L s) t.toNat else []
/-- A turn and a telescope as a key. -/
theorem turn_key {L : List Scp} {t s : Int} (hok : ScsOk L (m0L L)) (h : turnB L t s = true) : ∃ k : Fin 32, t = ((k.1 / 4 : Nat) : Int) ∧ s = ((k.1 % 4 : Nat) : Int) ∧ L[k.1 % 4]? = some (scpAt L s) ∧ k.1 / 4 < (scpAt L s).zs.length := by
  unfold turnB at h
  rw [Bool.and_eq_true] at h
  have a := inB_true.1 h.1
  have b := inB_true.1 h.2
  have l4 := hok.l4
  have l1 := hok.l1
  have hs : s.toNat < L.length := by omega
  have ex : scpAt L s = L[s.toNat] := by unfold scpAt; simp [hs]
  have hx := hok.ok _ (List.getElem_mem hs)
  have hm : m0L L ≤ 8 := by have := hx.zm; have := hx.z8; omega
  have hk : t.toNat * 4 + s.toNat < 32 := by omega
  refine ⟨⟨t.toNat * 4 + s.toNat, hk⟩, by simp only; omega, by simp only; omega, ?_, ?_⟩
  · simp only
    rw [show (t.toNat * 4 + s.toNat) % 4 = s.toNat by omega, ex]
    simp [hs]
  · simp only
    rw [ex]
    have := hx.zm
    omega
set_option maxRecDepth 100000 in
set_option maxHeartbeats 4000000 in
theorem Sees_ (L : List Scp) (A : Option Addr) (c : Nat) (t s n : Int) (w : World) (hL : Sl w w.heap.size 6 A L.length c (scsC L)) (hz : ∀ x ∈ L, Sl w w.heap.size 3 x.ZA x.zs.length x.zc (zsC x.zs)) (hs : ∀ x ∈ L, x.nm.size ≤ maxLen) (N : Nat) (hN : (N : Int) = 6 * (n * n)) :
    Calls Tryz.prog 38 #[.slice A L.length c, .int .i64 t, .int .i64 s, .int .i64 n] w (FitOut (seesE L n t s) (seesL L n t s N) w) := by
  by_cases hg : gW L n = 0
  · obtain ⟨hb, h1, h8⟩ := gW_ok hg
    have hok := scsB_ok hb hs
    have HWT := Lib.hid (watching_ok L (m0L L) hok A c n h1 h8 N w hL hz)
    have l1 := hok.l1
    have l4 := hok.l4
    have hx0 := hok.ok _ (List.getElem_mem (show 0 < L.length from l1))
    have hm8 : m0L L ≤ 8 := by have := hx0.zm; have := hx0.z8; omega
    cases ht : turnB L t s with
    | false =>
      have e : seesE L n t s = 94 := by unfold seesE; rw [hg, ht]; rfl
      have e2 : seesL L n t s N = [] := by unfold seesL; rw [if_neg (by rw [e]; decide)]
      rw [e, e2]
      clear e e2 hL hz hs hok hx0
      go_enter Tryz.func38, Tryz.ntmps38
      go_wp2_with fail
      refine HWT.out.mono ?_
      rintro e w1 ⟨wb, mb, rfl, hwa, hb⟩
      have HWA := Lib.hid hwa
      have HB := Lib.hid hb
      clear hb hwa
      go_wp2_with (go_at_call 88; refine (turn_ _ _ _ _ _ _ _ _ _ _ _ _ _ HWA.out l1 l4 hm8).mono ?_; rintro e w' ⟨rfl, rfl⟩; rw [ht])
      go_ret2
      exact FitOut.none 94 HB.out
    | true =>
      have e : seesE L n t s = 0 := by unfold seesE; rw [hg, ht]; rfl
      have e2 : seesL L n t s N = seesX n N (scpAt L s) t.toNat := by unfold seesL; rw [if_pos e]
      rw [e, e2]
      obtain ⟨k, hkt, hks, hkx, hkl⟩ := turn_key hok ht
      have HSE := Lib.hid (fun W R B0 wb mb f (hW : WAt W R B0 wb mb A c L n N f) (hR : ∀ r, R r → r < W.heap.size) => sees_ R B0 wb mb A c L n h1 h8 N hN f k _ hkx hkl W hW hR)
      rw [← hkt, ← hks] at HSE
      have ex : seesX n N (scpAt L s) (k.1 / 4) = seesX n N (scpAt L s) t.toNat := by rw [hkt]; rfl
      rw [ex] at HSE
      obtain ⟨X, hX⟩ : ∃ l, seesX n N (scpAt L s) t.toNat = l := ⟨_, rfl⟩
      have hXl : X.length ≤ N := by rw [← hX]; unfold seesX pickL; rw [List.length_map]; exact Nat.le_trans (List.length_filter_le _ _) (by rw [cellsL_len]; exact Nat.le_refl _)
      obtain ⟨k1, k2, k3⟩ := six_in h1 h8
      have hN9 : N ≤ 384 := by omega
      rw [hX] at HSE ⊢
      clear e e2 hL hz hs hok hx0 hkt hks hkx hkl ex hX k1 k2 k3
      go_enter Tryz.func38, Tryz.ntmps38
      go_wp2_with fail
      refine HWT.out.mono ?_
      rintro e w1 ⟨wb, mb, rfl, hwa, hb⟩
      have HWA := Lib.hid hwa
      have HB := Lib.hid hb
      clear hb hwa
      go_wp2_with (go_at_call 88; refine (turn_ _ _ _ _ _ _ _ _ _ _ _ _ _ HWA.out l1 l4 hm8).mono ?_; rintro e w' ⟨rfl, rfl⟩; rw [ht])
      refine (HSE.out w1 _ _ _ _ _ HWA.out (fun r h => h.elim)).mono ?_
      rintro e w2 ⟨v, f', rfl, hsv, hwa2, hgr⟩
      obtain ⟨XA, xc, rfl, hsl, -⟩ := hsv
      have HSL := Lib.hid hsl
      have hmb := HWA.out.b1
      have HB2 : Hid (Below w.heap.size w w2) := HB.out.grown hgr HB.out.size (fun g h => by cases h; exact hmb)
      clear hsl hwa2 hgr
      go_wp2_with fail
      refine (CloneI_ X XA xc w2 HSL.out (by omega)).mono ?_
      rintro e w3 ⟨A', c', rfl, hown, hb⟩
      have HO := Lib.hid hown
      have HB3 := Lib.hid (HB2.out.trans (hb.mono HB2.out.size))
      have hw2 := HB2.out.size
      clear hown hb
      go_wp2_with fail
      go_ret2
      exact ⟨_, rfl, own_le HO.out hw2, HB3.out⟩
  · have e : seesE L n t s = gW L n := by unfold seesE; rw [if_neg (by simpa using hg)]
    have e2 : seesL L n t s N = [] := by unfold seesL; rw [if_neg (by rw [e]; exact hg)]
    rw [e, e2]
    obtain ⟨v, hv⟩ : ∃ v, gW L n = v := ⟨_, rfl⟩
    have HWT := Lib.hid (watching_e L A c n v w hv (by rw [← hv]; exact hg) hL hz hs)
    have hnz : (v != 0) = true := by rw [← hv]; simpa using hg
    rw [hv]
    clear hL hz hs e e2 hv hg
    go_enter Tryz.func38, Tryz.ntmps38
    go_wp2_with fail
    refine HWT.out.mono ?_
    rintro e w1 ⟨rfl, hb⟩
    have HB := Lib.hid hb
    clear hb
    go_wp2_with fail
    go_ret2
    exact FitOut.none v HB.out
end Go.Proofs.YtcclfhdglhbpcaaGreatDoor
