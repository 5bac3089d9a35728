/-
  The walks of the specification's CheckNet and placed.
-/
import Derived.Test.YtcclfhdglhbpcaaGreatDoorW39
import Derived.Test.YtcclfhdglhbpcaaGreatDoorW30
import Derived.Deep.DeepCutAuto
namespace Go.Proofs.YtcclfhdglhbpcaaGreatDoor
open Go.RowKit Al
attribute [local go_sem ↓] arr_eq

/-- A site by itself; its name among the first j. -/
def siteA (x : NSi) : Bool := isName x.nm.data.toList && (mostB x.s.p 65536 && (mostB x.s.u 100 && (mostB x.s.v 100 && (nzB x.s.u && nzB x.s.v))))
def distB (L : List NSi) (s : Str) (j : Nat) : Bool := (L.take j).all fun y => !(y.nm.data.toList == s)
def rstep (L : List NSi) (i : Nat) : Bool := match L[i]? with
  | some x => siteA x && distB L x.nm.data.toList i
  | none => true
def rnetN (L : List NSi) (b : Bool) (k : Nat) : Bool := b && (List.range k).all (rstep L)
theorem rnetN_succ (L : List NSi) (b : Bool) {k : Nat} (h : k < L.length) : rnetN L b (k + 1) = (rnetN L b k && (siteA L[k] && distB L L[k].nm.data.toList k)) := by
  unfold rnetN
  rw [List.range_succ, List.all_append, ← Bool.and_assoc]
  congr 1
  simp [rstep, h]
theorem distB_succ {L : List NSi} {s : Str} {j : Nat} (h : j < L.length) : distB L s (j + 1) = (distB L s j && !(L[j].nm.data.toList == s)) := by
  unfold distB
  rw [List.take_succ_eq_append_getElem h, List.all_append]
  simp
theorem rnet_is (L : List NSi) : rnetN L (inB L.length 2 6) L.length = netB L := by
  have e1 : (L.all fun x => siteOkB x.s) = (List.range L.length).all fun i => match L[i]? with | some x => siteOkB x.s | none => true := by
    rw [Bool.eq_iff_iff, List.all_eq_true, List.all_eq_true]
    constructor
    · intro h i hi
      have hi := List.mem_range.1 hi
      rw [List.getElem?_eq_getElem hi]
      exact h _ (List.getElem_mem hi)
    · intro h x hx
      obtain ⟨i, hi, rfl⟩ := List.getElem_of_mem hx
      have := h i (List.mem_range.2 hi)
      rw [List.getElem?_eq_getElem hi] at this
      exact this
  unfold netB rnetN namedB namedN
  rw [e1, Bool.and_assoc, List.length_map]
  congr 1
  rw [Bool.eq_iff_iff, Bool.and_eq_true, List.all_eq_true, List.all_eq_true, List.all_eq_true]
  have key : ∀ i, i < L.length → (rstep L i = true ↔ nameStep (L.map fun x => x.nm.data.toList) i = true ∧ (match L[i]? with | some x => siteOkB x.s | none => true) = true) := by
    intro i hi
    unfold rstep nameStep
    rw [List.getElem?_eq_getElem hi]
    simp only
    rw [show (L.map fun x => x.nm.data.toList).getD i [] = L[i].nm.data.toList by simp [hi]]
    have e2 : (((L.map fun x => x.nm.data.toList).take i).contains L[i].nm.data.toList) = !distB L L[i].nm.data.toList i := by
      unfold distB
      rw [← List.map_take]
      generalize L.take i = M
      generalize L[i].nm.data.toList = s
      induction M with
      | nil => rfl
      | cons y M ih =>
        rw [List.map_cons, List.contains_cons, List.all_cons, ih]
        rw [Bool.not_and, Bool.not_not, BEq.comm]
    rw [e2, Bool.not_not]
    unfold siteA siteOkB
    simp only [Bool.and_eq_true]
    constructor
    · rintro ⟨⟨a, b⟩, c⟩; exact ⟨⟨a, c⟩, b⟩
    · rintro ⟨⟨a, c⟩, b⟩; exact ⟨⟨a, b⟩, c⟩
  constructor
  · intro h
    exact ⟨fun i hi => ((key i (List.mem_range.1 hi)).1 (h i hi)).1, fun i hi => ((key i (List.mem_range.1 hi)).1 (h i hi)).2⟩
  · rintro ⟨h1, h2⟩ i hi
    exact (key i (List.mem_range.1 hi)).2 ⟨h1 i hi, h2 i hi⟩
/-- A site in a box. -/
structure SiB (W : World) (b : Nat) (x : NSi) : Prop where
  hp : W.heap[b]? = some (.cells #[.string x.nm, .int .i64 x.s.p.1, .int .i64 x.s.p.2.1, .int .i64 x.s.p.2.2, .int .i64 x.s.u.1, .int .i64 x.s.u.2.1, .int .i64 x.s.u.2.2, .int .i64 x.s.v.1, .int .i64 x.s.v.2.1, .int .i64 x.s.v.2.2] 93 (0, 0))
section
variable {W W' : World} {b : Nat} {x : NSi}
theorem SiB.lt (h : SiB W b x) : b < W.heap.size := (Array.getElem?_eq_some_iff.1 h.hp).1
theorem SiB.below (h : SiB W b x) (g : Below W.heap.size W W') : SiB W' b x := ⟨(g.block b h.lt).trans h.hp⟩
theorem SiB.all (h : SiB W b x) : W.cell? ⟨b, 0, none⟩ = some (.string x.nm) ∧ W.cell? ⟨b, 1, none⟩ = some (.int .i64 x.s.p.1) ∧ W.cell? ⟨b, 2, none⟩ = some (.int .i64 x.s.p.2.1) ∧ W.cell? ⟨b, 3, none⟩ = some (.int .i64 x.s.p.2.2) ∧ W.cell? ⟨b, 4, none⟩ = some (.int .i64 x.s.u.1) ∧ W.cell? ⟨b, 5, none⟩ = some (.int .i64 x.s.u.2.1) ∧ W.cell? ⟨b, 6, none⟩ = some (.int .i64 x.s.u.2.2) ∧
    W.cell? ⟨b, 7, none⟩ = some (.int .i64 x.s.v.1) ∧ W.cell? ⟨b, 8, none⟩ = some (.int .i64 x.s.v.2.1) ∧ W.cell? ⟨b, 9, none⟩ = some (.int .i64 x.s.v.2.2) := by
  have e := h.hp
  refine ⟨?_, ?_, ?_, ?_, ?_, ?_, ?_, ?_, ?_, ?_⟩ <;> simp [World.cell?, e]
end
def RkRel (L : List NSi) (b : Bool) (w : World) (o i : Value) (wr : World) : Prop := ∃ k : Nat, k ≤ L.length ∧ i = .int .i64 (k : Int) ∧ o = .bool (rnetN L b k) ∧ Hid (Below w.heap.size w wr)
def RdRel (L : List NSi) (s : Str) (q : Bool) (m : Nat) (w : World) (o j : Value) (wr : World) : Prop := ∃ k : Nat, k ≤ m ∧ j = .int .i64 (k : Int) ∧ o = .bool (q && distB L s k) ∧ Hid (Below w.heap.size w wr)
set_option maxRecDepth 100000 in
set_option maxHeartbeats 16000000 in
theorem rCheckNet_ (L : List NSi) (A : Option Addr) (c : Nat) (w : World) (hL : Sl w w.heap.size 10 A L.length c (nsCells L)) (hm : ∀ x ∈ L, x.nm.size ≤ maxLen) :
    Calls Tryz.prog 103 #[.slice A L.length c] w fun e w' => e = .returned (.int .i64 (netE L)) ∧ Below w.heap.size w w' := by
  have hl : L.length ≤ maxLen := Nat.le_trans hL.cap hL.max
  unfold maxLen at hl
  have HL := Lib.hid hL
  have HM := Lib.hid hm
  clear hL hm
  obtain ⟨ib, hib⟩ : ∃ ib, inB L.length 2 6 = ib := ⟨_, rfl⟩
  have HNB : Hid (rnetN L ib L.length = netB L) := by show _ = _; rw [← hib]; exact rnet_is L
  have HIB := Lib.hid hib
  have h0 : rnetN L ib 0 = ib := by simp [rnetN]
  have H0 := Lib.hid h0
  clear hib h0
  go_enter Tryz.func103, Tryz.ntmps103
  go_wp2_with (go_at_call 29; refine (rInB_ _ _ _ _).mono ?_; rintro e w' ⟨rfl, rfl⟩; rw [HIB.out])
  go_loopw [3, 4] (fun o i wr => RkRel L ib w o i wr) (fun _ i _ => L.length - (intOf i).toNat)
  case atStart => exact ⟨0, Nat.zero_le _, rfl, by rw [H0.out], Below.refl _ _⟩
  case round =>
    obtain ⟨k, hk, rfl, rfl, HB⟩ := hrel
    have hsz := HB.out.size
    by_cases hlt : k < L.length
    · obtain ⟨tb, tof, rfl, htb, c0, c1, c2, c3, c4, c5, c6, c7, c8, c9⟩ := (HL.out.below HB.out).ns_at hlt
      have HS := Lib.hid (rnetN_succ L ib hlt)
      have hnm := HM.out _ (List.getElem_mem hlt)
      obtain ⟨X, hX⟩ : ∃ X, L[k] = X := ⟨_, rfl⟩
      rw [hX] at c0 c1 c2 c3 c4 c5 c6 c7 c8 c9 HS hnm
      have hlt' : (k : Int) < (L.length : Int) := by omega
      have htb2 : tb < wr.heap.size := by omega
      obtain ⟨q, hq⟩ : ∃ q, rnetN L ib k = q := ⟨_, rfl⟩
      rw [hq] at HS ⊢
      clear hX hq
      obtain ⟨nm, ⟨⟨p1, p2, p3⟩, ⟨g1, g2, g3⟩, ⟨h1, h2, h3⟩⟩⟩ := X
      simp only at c0 c1 c2 c3 c4 c5 c6 c7 c8 c9 hnm
      obtain ⟨n1, hn1⟩ : ∃ b, isName nm.data.toList = b := ⟨_, rfl⟩
      obtain ⟨m1, hm1⟩ : ∃ b, mostB (p1, p2, p3) 65536 = b := ⟨_, rfl⟩
      obtain ⟨m2, hm2⟩ : ∃ b, mostB (g1, g2, g3) 100 = b := ⟨_, rfl⟩
      obtain ⟨m3, hm3⟩ : ∃ b, mostB (h1, h2, h3) 100 = b := ⟨_, rfl⟩
      obtain ⟨z1, hz1⟩ : ∃ b, (g1 == 0 && (g2 == 0 && g3 == 0)) = b := ⟨_, rfl⟩
      obtain ⟨z2, hz2⟩ : ∃ b, (h1 == 0 && (h2 == 0 && h3 == 0)) = b := ⟨_, rfl⟩
      have HSA : Hid (siteA ⟨nm, ⟨(p1, p2, p3), (g1, g2, g3), (h1, h2, h3)⟩⟩ = (n1 && (m1 && (m2 && (m3 && (!z1 && !z2)))))) := by show _ = _; unfold siteA nzB; simp only; rw [hn1, hm1, hm2, hm3, hz1, hz2]
      have HI1 := Lib.hid (fun W => rIsName_ nm W hnm)
      have HV1 := Lib.hid (fun W => rvector_ p1 p2 p3 65536 (w64 (by decide) (by decide)) W)
      have HV2 := Lib.hid (fun W => rvector_ g1 g2 g3 100 (w64 (by decide) (by decide)) W)
      have HV3 := Lib.hid (fun W => rvector_ h1 h2 h3 100 (w64 (by decide) (by decide)) W)
      rw [hn1] at HI1
      rw [hm1] at HV1
      rw [hm2] at HV2
      rw [hm3] at HV3
      have HQ1 : Hid (∀ W, (Op.equalIn 10000 43 (.agg #[.int .i64 g1, .int .i64 g2, .int .i64 g3]) (.agg #[.int .i64 0, .int .i64 0, .int .i64 0])).run Tryz.prog W = .ok z1 W) := fun W => (arr_eq _ _ _ _ _ _ W).trans (by rw [← hz1])
      have HQ2 : Hid (∀ W, (Op.equalIn 10000 43 (.agg #[.int .i64 h1, .int .i64 h2, .int .i64 h3]) (.agg #[.int .i64 0, .int .i64 0, .int .i64 0])).run Tryz.prog W = .ok z2 W) := fun W => (arr_eq _ _ _ _ _ _ W).trans (by rw [← hz2])
      clear hn1 hm1 hm2 hm3
      go_upto_region 6 with fail
      have HZ : Hid (SiB (wr.alloc (.cells #[.string nm, .int .i64 p1, .int .i64 p2, .int .i64 p3, .int .i64 g1, .int .i64 g2, .int .i64 g3, .int .i64 h1, .int .i64 h2, .int .i64 h3] 93)) wr.heap.size ⟨nm, ⟨(p1, p2, p3), (g1, g2, g3), (h1, h2, h3)⟩⟩) := ⟨heap_alloc_new wr _⟩
      have HBZ : Hid (Below wr.heap.size wr (wr.alloc (.cells #[.string nm, .int .i64 p1, .int .i64 p2, .int .i64 p3, .int .i64 g1, .int .i64 g2, .int .i64 g3, .int .i64 h1, .int .i64 h2, .int .i64 h3] 93))) := (Below.refl _ _).alloc (Nat.le_refl _) _
      obtain ⟨wz, hwz⟩ : ∃ W, wr.alloc (.cells #[.string nm, .int .i64 p1, .int .i64 p2, .int .i64 p3, .int .i64 g1, .int .i64 g2, .int .i64 g3, .int .i64 h1, .int .i64 h2, .int .i64 h3] 93) = W := ⟨_, rfl⟩
      rw [hwz] at HZ HBZ ⊢
      have hzz : wr.heap.size ≤ wz.heap.size := HBZ.out.size
      obtain ⟨xb, hxb⟩ : ∃ b, wr.heap.size = b := ⟨_, rfl⟩
      rw [hxb] at HZ ⊢
      clear hwz hxb c0 c1 c2 c3 c4 c5 c6 c7 c8 c9
      go_cut [3] (fun s3 wx => s3 = .bool (q && siteA ⟨nm, ⟨(p1, p2, p3), (g1, g2, g3), (h1, h2, h3)⟩⟩) ∧ Below wz.heap.size wz wx)
      case first =>
        obtain ⟨y0, y1, y2, y3, y4, y5, y6, y7, y8, y9⟩ := HZ.out.all
        have yl := HZ.out.lt
        simp only at y0 y1 y2 y3 y4 y5 y6 y7 y8 y9
        cases q with
        | false =>
          go_wp2_with fail
          go_meet
          case rel => exact ⟨by rw [HSA.out]; simp, Below.refl _ _⟩
        | true =>
          cases n1 with
          | false =>
            go_wp2_with (with_reducible refine (HI1.out _).mono ?_; rintro e w' ⟨rfl, rfl⟩)
            go_meet
            case rel => exact ⟨by rw [HSA.out]; simp, Below.refl _ _⟩
          | true =>
            go_wp2_with (with_reducible refine (HI1.out _).mono ?_; rintro e w' ⟨rfl, rfl⟩)
            refine (HV1.out _).mono ?_
            rintro e w3 ⟨rfl, hb⟩
            have HB3 := Lib.hid hb
            have HZ3 := Lib.hid (HZ.out.below hb)
            clear y0 y1 y2 y3 y4 y5 y6 y7 y8 y9 yl hb
            obtain ⟨y0, y1, y2, y3, y4, y5, y6, y7, y8, y9⟩ := HZ3.out.all
            have yl := HZ3.out.lt
            simp only at y0 y1 y2 y3 y4 y5 y6 y7 y8 y9
            cases m1 with
            | false =>
              go_wp2_with fail
              go_meet
              case rel => exact ⟨by rw [HSA.out]; simp, HB3.out⟩
            | true =>
              go_wp2_with fail
              refine (HV2.out _).mono ?_
              rintro e w4 ⟨rfl, hb⟩
              have HB4 := Lib.hid (Below.tr HB3.out hb)
              have HZ4 := Lib.hid (HZ3.out.below hb)
              clear y0 y1 y2 y3 y4 y5 y6 y7 y8 y9 yl hb
              obtain ⟨y0, y1, y2, y3, y4, y5, y6, y7, y8, y9⟩ := HZ4.out.all
              have yl := HZ4.out.lt
              simp only at y0 y1 y2 y3 y4 y5 y6 y7 y8 y9
              cases m2 with
              | false =>
                go_wp2_with fail
                go_meet
                case rel => exact ⟨by rw [HSA.out]; simp, HB4.out⟩
              | true =>
                go_wp2_with fail
                refine (HV3.out _).mono ?_
                rintro e w5 ⟨rfl, hb⟩
                have HB5 := Lib.hid (Below.tr HB4.out hb)
                have HZ5 := Lib.hid (HZ4.out.below hb)
                clear y0 y1 y2 y3 y4 y5 y6 y7 y8 y9 yl hb
                obtain ⟨y0, y1, y2, y3, y4, y5, y6, y7, y8, y9⟩ := HZ5.out.all
                have yl := HZ5.out.lt
                simp only at y0 y1 y2 y3 y4 y5 y6 y7 y8 y9
                cases m3 with
                | false =>
                  go_wp2_with fail
                  go_meet
                  case rel => exact ⟨by rw [HSA.out]; simp, HB5.out⟩
                | true =>
                  cases z1 with
                  | true =>
                    go_wp2_with fail
                    go_meet
                    case rel => exact ⟨by rw [HSA.out]; simp, HB5.out⟩
                  | false =>
                    cases z2 with
                    | true =>
                      go_wp2_with fail
                      go_meet
                      case rel => exact ⟨by rw [HSA.out]; simp, HB5.out⟩
                    | false =>
                      go_wp2_with fail
                      go_meet
                      case rel => exact ⟨by rw [HSA.out]; simp, HB5.out⟩
      case rest =>
        obtain ⟨rfl, hb⟩ := hcut
        rename World => wc
        have HBC := Lib.hid (HB.out.trans ((HBZ.out.trans (hb.mono hzz)).mono hsz))
        have HZC := Lib.hid (HZ.out.below hb)
        have hwc : w.heap.size ≤ wc.heap.size := HBC.out.size
        clear hb HSA HI1 HV1 HV2 HV3 HQ1 HQ2 hz1 hz2
        obtain ⟨sq, hsq⟩ : ∃ b, (q && siteA ⟨nm, ⟨(p1, p2, p3), (g1, g2, g3), (h1, h2, h3)⟩⟩) = b := ⟨_, rfl⟩
        have HSQ := Lib.hid hsq
        rw [hsq]
        clear hsq
        go_wp2_with fail
        go_loopw [3, 6] (fun o j wr => RdRel L nm.data.toList sq k wc o j wr) (fun _ j _ => k - (intOf j).toNat)
        case atStart => exact ⟨0, Nat.zero_le _, rfl, by simp [distB], Below.refl _ _⟩
        case round =>
          obtain ⟨j, hj, rfl, rfl, HBJ⟩ := hrel
          have hszj := HBJ.out.size
          by_cases hjk : j < k
          · obtain ⟨tb', tof', hA, htb', d0, -⟩ := (HL.out.below (HBC.out.trans (HBJ.out.mono hwc))).ns_at (k := j) (by omega)
            cases hA
            have hds := distB_succ (L := L) (s := nm.data.toList) (j := j) (by omega)
            obtain ⟨ym, hym⟩ : ∃ s, (L[j]'(by omega)).nm = s := ⟨_, rfl⟩
            rw [hym] at d0 hds
            obtain ⟨y0, -⟩ := (HZC.out.below HBJ.out).all
            have yl := (HZC.out.below HBJ.out).lt
            simp only at y0
            have hj0 : (0 : Int) ≤ (j : Int) := by omega
            have hj1 : (j : Int) < (L.length : Int) := by omega
            have hj2 : (j : Int) < (k : Int) := by omega
            have htb3 : tb < wr.heap.size := by omega
            obtain ⟨dq, hdq⟩ : ∃ b, distB L nm.data.toList j = b := ⟨_, rfl⟩
            rw [hdq] at hds
            have HDS := Lib.hid hds
            rw [hdq]
            obtain ⟨r, hr⟩ : ∃ b, (sq && dq) = b := ⟨_, rfl⟩
            have HRR := Lib.hid hr
            rw [hr]
            clear hym hds hdq hr
            cases r with
            | false =>
              go_wp2_with fail
              refine wp_region_bw2 (by kernel_rfl) (by kernel_rfl) (fun hbwc => ?_)
              repeat (go_big_quiet_step (fail))
              refine wpQuiet_nil ?_
              clear hbwc
              intro w8 hb
              have HB8 := Lib.hid (HBJ.out.trans (((show Below wr.heap.size wr _ from (by repeat (first | exact Below.refl _ _ | assumption | refine below_drewN ?_ _ | refine Below.drew ?_ | refine Below.setCell ?_ (by first | omega | (simp; done) | (simp; omega)) _ | refine Below.alloc ?_ (by first | omega | (simp; done) | (simp; omega)) _))).trans (hb.mono (by first | omega | (simp; done) | (simp; omega)))).mono hszj))
              clear hb
              go_wp2_with fail
              go_roundw
              case rel => exact ⟨j + 1, by omega, by go_num, by rw [HDS.out, ← Bool.and_assoc, HRR.out]; rfl, HB8⟩
              case measure => simp [intOf]; omega
            | true =>
              cases he : (ym.toList == nm.toList) with
              | true =>
                have HE : Hid ((ym.data.toList == nm.data.toList) = true) := by show _ = _; rw [← Lib.toList_data, ← Lib.toList_data]; exact he
                go_wp2_with fail
                refine wp_region_bw2 (by kernel_rfl) (by kernel_rfl) (fun hbwc => ?_)
                repeat (go_big_quiet_step (fail))
                refine wpQuiet_nil ?_
                clear hbwc
                intro w8 hb
                have HB8 := Lib.hid (HBJ.out.trans (((show Below wr.heap.size wr _ from (by repeat (first | exact Below.refl _ _ | assumption | refine below_drewN ?_ _ | refine Below.drew ?_ | refine Below.setCell ?_ (by first | omega | (simp; done) | (simp; omega)) _ | refine Below.alloc ?_ (by first | omega | (simp; done) | (simp; omega)) _))).trans (hb.mono (by first | omega | (simp; done) | (simp; omega)))).mono hszj))
                clear hb
                go_wp2_with fail
                go_roundw
                case rel => exact ⟨j + 1, by omega, by go_num, by rw [HDS.out, ← Bool.and_assoc, HRR.out, HE.out]; rfl, HB8⟩
                case measure => simp [intOf]; omega
              | false =>
                have HE : Hid ((ym.data.toList == nm.data.toList) = false) := by show _ = _; rw [← Lib.toList_data, ← Lib.toList_data]; exact he
                go_wp2_with fail
                refine wp_region_bw2 (by kernel_rfl) (by kernel_rfl) (fun hbwc => ?_)
                repeat (go_big_quiet_step (fail))
                refine wpQuiet_nil ?_
                clear hbwc
                intro w8 hb
                have HB8 := Lib.hid (HBJ.out.trans (((show Below wr.heap.size wr _ from (by repeat (first | exact Below.refl _ _ | assumption | refine below_drewN ?_ _ | refine Below.drew ?_ | refine Below.setCell ?_ (by first | omega | (simp; done) | (simp; omega)) _ | refine Below.alloc ?_ (by first | omega | (simp; done) | (simp; omega)) _))).trans (hb.mono (by first | omega | (simp; done) | (simp; omega)))).mono hszj))
                clear hb
                go_wp2_with fail
                go_roundw
                case rel => exact ⟨j + 1, by omega, by go_num, by rw [HDS.out, ← Bool.and_assoc, HRR.out, HE.out]; rfl, HB8⟩
                case measure => simp [intOf]; omega
          · obtain rfl : j = k := by omega
            have HBE := Lib.hid (HBC.out.trans (HBJ.out.mono hwc))
            go_wp2_with fail
            go_roundw
            case rel =>
              (first | exact ⟨j + 1, by omega, by go_num, by rw [HS.out, ← Bool.and_assoc, HSQ.out], HBE⟩ | ((repeat apply Exists.intro); refine ⟨⟨j + 1, by omega, by go_num, by rw [HS.out, ← Bool.and_assoc, HSQ.out], HBE⟩, ?_⟩; (repeat refine ⟨rfl, ?_⟩); exact rfl))
            case measure => simp [intOf]; omega
    · obtain rfl : k = L.length := by omega
      rw [HNB.out]
      cases hn : netB L with
      | false =>
        have HE : Hid (netE L = 90) := by show _ = _; unfold netE; rw [hn]; rfl
        go_wp2_with fail
        go_ret
        exact ⟨by rw [HE.out]; rfl, HB.out⟩
      | true =>
        have HE : Hid (netE L = 0) := by show _ = _; unfold netE; rw [hn]; rfl
        go_wp2_with fail
        go_ret
        exact ⟨by rw [HE.out]; rfl, HB.out⟩
/-- The first error of a network, a grid and a cell, as the specification looks for it. -/
theorem rplaced_ (L : List NSi) (A : Option Addr) (c : Nat) (n cl : Int) (w : World) (hL : Sl w w.heap.size 10 A L.length c (nsCells L)) (hm : ∀ x ∈ L, x.nm.size ≤ maxLen) :
    Calls Tryz.prog 53 #[.slice A L.length c, .int .i64 n, .int .i64 cl] w fun e w' => e = .returned (.int .i64 (celG L n cl)) ∧ Below w.heap.size w w' := by
  have HCN := Lib.hid (rCheckNet_ L A c w hL hm)
  clear hL hm
  rcases netE_cases L with h | h
  · have hg : celG L n cl = if thereB n cl then 0 else 91 := by
      unfold celG netG thereB
      rw [h]
      cases inB n 1 8 with
      | true => rfl
      | false => rfl
    have HG := Lib.hid hg
    rw [h] at HCN
    obtain ⟨tt, ht⟩ : ∃ b, thereB n cl = b := ⟨_, rfl⟩
    rw [ht] at HG
    clear hg h
    cases tt with
    | true =>
      go_enter Tryz.func53, Tryz.ntmps53
      go_wp2_with fail
      refine HCN.out.mono ?_
      rintro e w1 ⟨rfl, hb⟩
      have HB := Lib.hid hb
      clear hb
      go_wp2_with (go_at_call 64; refine (rthere_ _ _ _).mono ?_; rintro e w' ⟨rfl, rfl⟩; rw [ht])
      go_ret
      exact ⟨by rw [HG.out]; rfl, HB.out⟩
    | false =>
      go_enter Tryz.func53, Tryz.ntmps53
      go_wp2_with fail
      refine HCN.out.mono ?_
      rintro e w1 ⟨rfl, hb⟩
      have HB := Lib.hid hb
      clear hb
      go_wp2_with (go_at_call 64; refine (rthere_ _ _ _).mono ?_; rintro e w' ⟨rfl, rfl⟩; rw [ht])
      go_ret
      exact ⟨by rw [HG.out]; rfl, HB.out⟩
  · have hg : celG L n cl = 90 := by unfold celG netG; rw [h]; rfl
    have HG := Lib.hid hg
    rw [h] at HCN
    clear hg h
    go_enter Tryz.func53, Tryz.ntmps53
    go_wp2_with fail
    refine HCN.out.mono ?_
    rintro e w1 ⟨rfl, hb⟩
    have HB := Lib.hid hb
    clear hb
    go_wp2_with fail
    go_ret
    exact ⟨by rw [HG.out]; rfl, HB.out⟩
end Go.Proofs.YtcclfhdglhbpcaaGreatDoor

/-
  The walk of the specification's Ring.
-/
namespace Go.Proofs.YtcclfhdglhbpcaaGreatDoor
open Go.RowKit Al Ring9

theorem celG_zero (L : List NSi) (n : Int) : celG L n 0 = netG L n := by
  unfold celG
  by_cases h : netG L n = 0
  · obtain ⟨_, _, h1, h8⟩ := netG_ok h
    obtain ⟨k1, k2, k3⟩ := six_in h1 h8
    rw [if_pos (by simpa using h), inB_true.2 (show (0 : Int) ≤ 0 ∧ 0 ≤ 6 * (n * n) - 1 by omega), h]
    rfl
  · rw [if_neg (by simpa using h)]
theorem pick_congr {is js : V3 → Bool} {n : Int} {N : Nat} (h : ∀ c : Nat, c < N → is (dirV n c) = js (dirV n c)) : pickL is (cellsL n N) = pickL js (cellsL n N) := by
  unfold pickL cellsL
  congr 1
  apply List.filter_congr
  intro x hx
  obtain ⟨c, hc, rfl⟩ := List.mem_map.1 hx
  exact h c (List.mem_range.1 hc)
theorem pick_len (is : V3 → Bool) (n : Int) (k : Nat) : (pickL is (cellsL n k)).length ≤ k := by
  unfold pickL
  rw [List.length_map]
  exact Nat.le_trans (List.length_filter_le _ _) (by rw [cellsL_len]; exact Nat.le_refl _)
theorem pick_snoc {is : V3 → Bool} {n : Int} {k : Nat} {r : Bool} (h : is (dirV n k) = r) : pickL is (cellsL n (k + 1)) = pickL is (cellsL n k) ++ (if r then [(k : Int)] else []) := by
  rw [cellsL_snoc, pickL_snoc, h]
def PkRel (is : V3 → Bool) (n : Int) (N : Nat) (w : World) (o i : Value) (wr : World) : Prop := ∃ (k : Nat) (B : Option Addr) (c : Nat), k ≤ N ∧ i = .int .i64 (k : Int) ∧ o = .slice B (pickL is (cellsL n k)).length c ∧ Hid (wr.ownsRow w.heap.size 3 1 (.slice B (pickL is (cellsL n k)).length c) (pickL is (cellsL n k)).length (ints (pickL is (cellsL n k)))) ∧ Hid (Below w.heap.size w wr)
set_option maxRecDepth 100000 in
set_option maxHeartbeats 8000000 in
theorem rRing_ok (L : List NSi) (A : Option Addr) (c : Nat) (n : Int) (p q : Nat) (df sl : Int) (w : World) (hg : netG L n = 0) (hpq : p ≠ q) (hp : p < L.length) (hq : q < L.length) (hd : inB df (-1099511627776) 1099511627776 = true) (hs : inB sl 0 131072 = true)
    (hL : Sl w w.heap.size 10 A L.length c (nsCells L)) (hm : ∀ x ∈ L, x.nm.size ≤ maxLen) (N : Nat) (hN : (N : Int) = 6 * (n * n)) :
    Calls Tryz.prog 13 #[.slice A L.length c, .int .i64 n, .int .i64 (p : Int), .int .i64 (q : Int), .int .i64 df, .int .i64 sl] w (FitOut 0 (pickL (fun d => onS (L[p]'hp).s.p (L[q]'hq).s.p d df sl) (cellsL n N)) w) := by
  obtain ⟨i0, hi, hz0, hz1, hz2⟩ := info_parts cInfo
  obtain ⟨hl2, hl6, hn1, hn8⟩ := netG_ok hg
  obtain ⟨k1, k2, k3⟩ := six_in hn1 hn8
  have HPL := Lib.hid (rplaced_ L A c n 0 w hL hm)
  rw [celG_zero, hg] at HPL
  have HC : Hid (∀ W, Calls Tryz.prog 54 #[.int .i64 n] W fun e w' => e = .returned (.int .i64 (N : Int)) ∧ W = w') := fun W => by rw [hN]; exact rcells_ n hn1 hn8 W
  have e1 : decide ((p : Int) = (q : Int)) = false := decide_eq_false (by omega)
  have e2 : ((p : Int) == (q : Int)) = false := by simp; omega
  have b1 : inB (p : Int) 0 ((L.length : Int) - 1) = true := inB_true.2 ⟨by omega, by omega⟩
  have b2 : inB (q : Int) 0 ((L.length : Int) - 1) = true := inB_true.2 ⟨by omega, by omega⟩
  have hd' := inB_true.1 hd
  have hs' := inB_true.1 hs
  have HON := Lib.hid (fun (k : Nat) (hk : k < N) W => ron_ (L[p]'hp) (L[q]'hq) (dirV n k) df sl (net_site hg (show (L[p]'hp).s ∈ sites L from List.mem_map_of_mem (List.getElem_mem hp))) (net_site hg (show (L[q]'hq).s ∈ sites L from List.mem_map_of_mem (List.getElem_mem hq))) (dir9 (show thereB n k = true by unfold thereB; rw [inB_true.2 ⟨hn1, hn8⟩, inB_true.2 ⟨by omega, by omega⟩]; rfl)) (by omega) (by omega) (by omega) (by omega) W)
  have HDC := Lib.hid (fun (k : Nat) (hk : k < N) W => rdirection_ n (k : Int) hn1 hn8 (by omega) (by omega) W)
  have hN1 : N ≤ 384 := by omega
  have HL := Lib.hid hL
  have HPH := Lib.hid hp
  have HQH := Lib.hid hq
  obtain ⟨is, his⟩ : ∃ is, (fun d => onS (L[p]'hp).s.p (L[q]'hq).s.p d df sl) = is := ⟨_, rfl⟩
  have HIS : Hid (∀ d, onS (L[p]'hp).s.p (L[q]'hq).s.p d df sl = is d) := fun d => by rw [← his]
  rw [his]
  have hp' : (p : Int) < (L.length : Int) := by omega
  have hq' : (q : Int) < (L.length : Int) := by omega
  have hp0 : (0 : Int) ≤ (p : Int) := by omega
  have hq0 : (0 : Int) ≤ (q : Int) := by omega
  clear hg hpq hL hm hN his k1 k2 k3 hd' hs'
  go_enter Tryz.func13, Tryz.ntmps13
  go_wp2_with fail
  refine HPL.out.mono ?_
  rintro e w1 ⟨rfl, hb⟩
  have HB1 := Lib.hid hb
  have hwl : w.heap.size ≤ w1.heap.size := hb.size
  clear hb
  go_wp2_with (go_at_call 29; refine (rInB_ _ _ _ _).mono ?_; rintro e w' ⟨rfl, rfl⟩; first | rw [b1] | rw [b2] | rw [hd] | rw [hs])
  go_loopw [15, 16] (fun o i wr => PkRel is n N w1 o i wr) (fun _ i _ => N - (intOf i).toNat)
  case atStart => exact ⟨0, none, 0, Nat.zero_le _, rfl, rfl, World.ownsRow_nil _ _ _ _, Below.refl _ _⟩
  case round =>
    obtain ⟨k, D, dc, hk, rfl, rfl, HO, HB⟩ := hrel
    have hsz := HB.out.size
    have hpl := pick_len is n k
    by_cases hlt : k < N
    · obtain ⟨sb, so, rfl, hsb, c0, c1, c2, c3, c4, c5, c6, c7, c8, c9⟩ := (HL.out.below (HB1.out.trans (HB.out.mono hwl))).ns_at HPH.out
      obtain ⟨sb', so', hA, hsb', d0, d1, d2, d3, d4, d5, d6, d7, d8, d9⟩ := (HL.out.below (HB1.out.trans (HB.out.mono hwl))).ns_at HQH.out
      cases hA
      have HONK := Lib.hid (HON.out k hlt)
      have HDK := Lib.hid (HDC.out k hlt)
      have his := HIS.out (dirV n k)
      obtain ⟨r, hr⟩ : ∃ r, is (dirV n k) = r := ⟨_, rfl⟩
      have HPS := Lib.hid (pick_snoc hr)
      rw [hr] at his
      obtain ⟨X, hX⟩ : ∃ X, L[p]'HPH.out = X := ⟨_, rfl⟩
      obtain ⟨Y, hY⟩ : ∃ Y, L[q]'HQH.out = Y := ⟨_, rfl⟩
      rw [hX] at c0 c1 c2 c3 c4 c5 c6 c7 c8 c9 HONK his
      rw [hY] at d0 d1 d2 d3 d4 d5 d6 d7 d8 d9 HONK his
      obtain ⟨nx, ⟨⟨p1, p2, p3⟩, ⟨g1, g2, g3⟩, ⟨h1, h2, h3⟩⟩⟩ := X
      obtain ⟨ny, ⟨⟨q1, q2, q3⟩, ⟨m1, m2, m3⟩, ⟨o1, o2, o3⟩⟩⟩ := Y
      rw [his] at HONK
      obtain ⟨⟨x, y, z⟩, hdv⟩ : ∃ d, dirV n k = d := ⟨_, rfl⟩
      rw [hdv] at HONK HDK
      simp only at c0 c1 c2 c3 c4 c5 c6 c7 c8 c9 d0 d1 d2 d3 d4 d5 d6 d7 d8 d9
      have hlt' : (k : Int) < (N : Int) := by omega
      have hsb2 : sb < wr.heap.size := by omega
      clear hX hY his hr hdv
      go_wp2_with (go_at_call 54; refine (HC.out _).mono ?_; rintro e w' ⟨rfl, rfl⟩)
      refine wp_region_bw2 (by kernel_rfl) (by kernel_rfl) (fun hbwc => ?_)
      repeat (go_big_quiet_step ((first | (with_reducible exact bwCall (HDK.out _)) | (with_reducible exact bwCall (HONK.out _)))))
      refine wpQuiet_nil ?_
      clear hbwc
      intro w3 hb
      have HB3 := Lib.hid (HB.out.trans (((show Below wr.heap.size wr _ from (by repeat (first | exact Below.refl _ _ | assumption | refine below_drewN ?_ _ | refine Below.drew ?_ | refine Below.setCell ?_ (by first | omega | (simp; done) | (simp; omega)) _ | refine Below.alloc ?_ (by first | omega | (simp; done) | (simp; omega)) _))).trans (hb.mono (by first | omega | (simp; done) | (simp; omega)))).mono hsz))
      have HO3 := Lib.hid (own_below HO.out (Nat.le_refl _) ((show Below wr.heap.size wr _ from (by repeat (first | exact Below.refl _ _ | assumption | refine below_drewN ?_ _ | refine Below.drew ?_ | refine Below.setCell ?_ (by first | omega | (simp; done) | (simp; omega)) _ | refine Below.alloc ?_ (by first | omega | (simp; done) | (simp; omega)) _))).trans (hb.mono (by first | omega | (simp; done) | (simp; omega)))))
      have hz3 := HB3.out.size
      clear hb c0 c1 c2 c3 c4 c5 c6 c7 c8 c9 d0 d1 d2 d3 d4 d5 d6 d7 d8 d9 HONK HDK
      obtain ⟨pl, hpe⟩ : ∃ l, pickL is (cellsL n k) = l := ⟨_, rfl⟩
      rw [hpe] at HO3 HPS hpl ⊢
      clear hpe HO
      cases r with
      | false =>
        go_wp2_with fail
        go_roundw
        case rel => exact ⟨k + 1, D, dc, by omega, by go_num, by rw [HPS.out]; simp, Lib.hid (by rw [HPS.out]; simpa using HO3.out), HB3⟩
        case measure => simp [intOf]; omega
      | true =>
        have HOX := Lib.hid (own_below HO3.out (Nat.le_refl _) ((Below.refl w3.heap.size w3).alloc (Nat.le_refl _) (.cells #[.int .i64 (k : Int)] 3)))
        go_wp2_with (at_builtin; go_must (refine wpList_append_lies _ rfl _ _ 27 rfl w1.heap.size 3 i0 (.int .i64 0) 1 8 Tryz.underlying27 hi hz0 hz1 hz2 rfl (by decide) (.slice D pl.length dc) pl.length _ rfl HOX.out _ 1 1 [.int .i64 (k : Int)] rfl rfl (World.news_of_block (heap_alloc_new w3 _)) (by intro u hu; rw [List.mem_singleton.1 hu]; rfl) (by decide) (by unfold maxLen; omega) (by omega) (by simp; omega) _ rfl ?_); intro g cap w6 hown6 hg6 hat6 hlt6; have z6 := hg6.size; (try simp at z6))
        go_roundw
        case rel =>
          have e5 : pl ++ (if true = true then [(k : Int)] else []) = pl ++ [(k : Int)] := rfl
          refine ⟨k + 1, some ⟨g, 0, none⟩, cap, by omega, by go_num, by rw [HPS.out, e5, List.length_append]; rfl, Lib.hid ?_, Lib.hid ((HB3.out.alloc (by omega) _).grown hg6 (by simp; omega) (fun g h => (own_lt HO3.out h).1))⟩
          rw [HPS.out, e5, List.length_append, show ints (pl ++ [(k : Int)]) = ints pl ++ [.int .i64 (k : Int)] by simp [ints]]
          exact hown6
        case measure => simp [intOf]; omega
    · obtain rfl : k = N := by omega
      go_wp2_with (go_at_call 54; refine (HC.out _).mono ?_; rintro e w' ⟨rfl, rfl⟩)
      go_ret2
      exact ⟨_, rfl, own_le HO.out hwl, HB1.out.trans (HB.out.mono hwl)⟩
set_option maxRecDepth 100000 in
theorem rRing_e (L : List NSi) (A : Option Addr) (c : Nat) (n a b df sl v : Int) (w : World) (hv : netG L n = v) (h0 : ¬ v = 0) (hL : Sl w w.heap.size 10 A L.length c (nsCells L)) (hm : ∀ x ∈ L, x.nm.size ≤ maxLen) :
    Calls Tryz.prog 13 #[.slice A L.length c, .int .i64 n, .int .i64 a, .int .i64 b, .int .i64 df, .int .i64 sl] w (FitOut v [] w) := by
  have HPL := Lib.hid (rplaced_ L A c n 0 w hL hm)
  rw [celG_zero, hv] at HPL
  have hnz : (v != 0) = true := by simpa using h0
  clear hL hm hv
  go_enter Tryz.func13, Tryz.ntmps13
  go_wp2_with fail
  refine HPL.out.mono ?_
  rintro e w1 ⟨rfl, hb⟩
  have HB := Lib.hid hb
  clear hb
  go_wp2_with fail
  go_ret2
  exact FitOut.none v HB.out
set_option maxRecDepth 100000 in
set_option maxHeartbeats 8000000 in
theorem rRing_b (L : List NSi) (A : Option Addr) (c : Nat) (n a b df sl : Int) (w : World) (hg : netG L n = 0) (hr : rgOk L.length a b df sl = false) (hL : Sl w w.heap.size 10 A L.length c (nsCells L)) (hm : ∀ x ∈ L, x.nm.size ≤ maxLen) :
    Calls Tryz.prog 13 #[.slice A L.length c, .int .i64 n, .int .i64 a, .int .i64 b, .int .i64 df, .int .i64 sl] w (FitOut 92 [] w) := by
  obtain ⟨hl2, hl6, hn1, hn8⟩ := netG_ok hg
  have HPL := Lib.hid (rplaced_ L A c n 0 w hL hm)
  rw [celG_zero, hg] at HPL
  have HR := Lib.hid hr
  clear hL hm hg hr
  go_enter Tryz.func13, Tryz.ntmps13
  go_wp2_with fail
  refine HPL.out.mono ?_
  rintro e w1 ⟨rfl, hb⟩
  have HB := Lib.hid hb
  clear hb
  cases b1 : inB a 0 ((L.length : Int) - 1) with
  | false =>
    go_wp2_with (go_at_call 29; refine (rInB_ _ _ _ _).mono ?_; rintro e w' ⟨rfl, rfl⟩; first | rw [b1])
    go_ret2
    exact FitOut.none 92 HB.out
  | true =>
    cases b2 : inB b 0 ((L.length : Int) - 1) with
    | false =>
      go_wp2_with (go_at_call 29; refine (rInB_ _ _ _ _).mono ?_; rintro e w' ⟨rfl, rfl⟩; first | rw [b1] | rw [b2])
      go_ret2
      exact FitOut.none 92 HB.out
    | true =>
      by_cases hab : a = b
      · have e1 : decide (a = b) = true := decide_eq_true hab
        have e2 : (a == b) = true := by simpa using hab
        go_wp2_with (go_at_call 29; refine (rInB_ _ _ _ _).mono ?_; rintro e w' ⟨rfl, rfl⟩; first | rw [b1] | rw [b2])
        go_ret2
        exact FitOut.none 92 HB.out
      · have e1 : decide (a = b) = false := decide_eq_false hab
        have e2 : (a == b) = false := by simpa using hab
        cases hd : inB df (-1099511627776) 1099511627776 with
        | false =>
          go_wp2_with (go_at_call 29; refine (rInB_ _ _ _ _).mono ?_; rintro e w' ⟨rfl, rfl⟩; first | rw [b1] | rw [b2] | rw [hd])
          go_ret2
          exact FitOut.none 92 HB.out
        | true =>
          cases hs : inB sl 0 131072 with
          | false =>
            go_wp2_with (go_at_call 29; refine (rInB_ _ _ _ _).mono ?_; rintro e w' ⟨rfl, rfl⟩; first | rw [b1] | rw [b2] | rw [hd] | rw [hs])
            go_ret2
            exact FitOut.none 92 HB.out
          | true =>
            exact absurd HR.out (by unfold rgOk; rw [e2, b1, b2, hd, hs]; simp)
/-- The specification's Ring answers as the program's. -/
theorem rRing_ (L : List NSi) (A : Option Addr) (c : Nat) (n a b df sl : Int) (w : World) (hL : Sl w w.heap.size 10 A L.length c (nsCells L)) (hm : ∀ x ∈ L, x.nm.size ≤ maxLen) (N : Nat) (hN : (N : Int) = 6 * (n * n)) :
    Calls Tryz.prog 13 #[.slice A L.length c, .int .i64 n, .int .i64 a, .int .i64 b, .int .i64 df, .int .i64 sl] w (FitOut (rgG L n a b df sl) (rgL L n a b df sl N) w) := by
  by_cases hg : netG L n = 0
  · have e : rgG L n a b df sl = if rgOk L.length a b df sl then 0 else 92 := by unfold rgG; rw [if_pos (by simpa using hg)]
    cases hr : rgOk L.length a b df sl with
    | false =>
      have e2 : rgL L n a b df sl N = [] := by unfold rgL; rw [e, hr]; rfl
      rw [e, e2, hr]
      exact rRing_b L A c n a b df sl w hg hr hL hm
    | true =>
      have e2 : rgL L n a b df sl N = pickL (fun d => diffB (siteAt (sites L) a) (siteAt (sites L) b) d df sl) (cellsL n N) := by unfold rgL; rw [e, hr]; rfl
      rw [e, e2, hr]
      unfold rgOk at hr
      simp only [Bool.and_eq_true, Bool.not_eq_true', beq_eq_false_iff_ne] at hr
      obtain ⟨r1, r2, r3, r4, r5⟩ := hr
      have q2 := inB_true.1 r2
      have q3 := inB_true.1 r3
      have q4 := inB_true.1 r4
      have q5 := inB_true.1 r5
      obtain ⟨p, rfl⟩ : ∃ p : Nat, a = (p : Int) := ⟨a.toNat, by omega⟩
      obtain ⟨q, rfl⟩ : ∃ q : Nat, b = (q : Int) := ⟨b.toNat, by omega⟩
      have hp : p < L.length := by omega
      have hq : q < L.length := by omega
      obtain ⟨_, _, h1, h8⟩ := netG_ok hg
      have hsl : (sites L).length = L.length := by simp [sites]
      have ea : siteAt (sites L) (p : Int) = (L[p]'hp).s := by rw [siteAt_is (by omega)]; simp [sites]
      have eb : siteAt (sites L) (q : Int) = (L[q]'hq).s := by rw [siteAt_is (by omega)]; simp [sites]
      have h := rRing_ok L A c n p q df sl w hg (by omega) hp hq r4 r5 hL hm N hN
      rw [ea, eb, pick_congr (is := fun d => diffB (L[p]'hp).s (L[q]'hq).s d df sl) (js := fun d => onS (L[p]'hp).s.p (L[q]'hq).s.p d df sl)]
      · exact h
      · intro k hk
        exact on_same (net_site hg (show (L[p]'hp).s ∈ sites L from List.mem_map_of_mem (List.getElem_mem hp))) (net_site hg (show (L[q]'hq).s ∈ sites L from List.mem_map_of_mem (List.getElem_mem hq))) (dir9 (show thereB n k = true by unfold thereB; rw [inB_true.2 ⟨h1, h8⟩, inB_true.2 ⟨by omega, by omega⟩]; rfl)) (by omega) (by omega) (by omega) (by omega)
  · have e : rgG L n a b df sl = netG L n := by unfold rgG; rw [if_neg (by simpa using hg)]
    have e2 : rgL L n a b df sl N = [] := by unfold rgL; rw [e, if_neg hg]
    rw [e, e2]
    exact rRing_e L A c n a b df sl _ w rfl hg hL hm
end Go.Proofs.YtcclfhdglhbpcaaGreatDoor
