/-
  The walk of the law AlertNight: the candidates of a night become alerts that can be posted, narrowed and withdrawn.
-/
import Derived.Test.YtmpbhngjkbidcaaGreatDoorW28
import Derived.Test.YtmpbhngjkbidcaaGreatDoorW23
import Derived.Deep.RegionHeld3
namespace Go.Proofs.YtmpbhngjkbidcaaGreatDoor
open Go.RowKit Al


set_option maxRecDepth 100000 in
set_option maxHeartbeats 16000000 in
theorem lnight_ (a b : List Trg) (A B : Option Addr) (ca cb : Nat) (live window step limit g slack : Int) (L : List NSi) (N : Option Addr) (nc : Nat) (w : World)
    (ha : Sl w w.heap.size 3 A a.length ca (trCells a)) (hb : Sl w w.heap.size 3 B b.length cb (trCells b)) (hL : Sl w w.heap.size 10 N L.length nc (nsCells L)) (hm : ∀ x ∈ L, x.nm.size ≤ maxLen) (hr : Rdy w) :
    Calls Tryz.prog 3 #[(.agg #[.slice A a.length ca, .slice B b.length cb, .int .i64 live, .int .i64 window, .int .i64 step, .int .i64 limit, .slice N L.length nc, .int .i64 g, .int .i64 slack])] w fun e w' => e = .returned (.bool true) ∧ Below w.heap.size w w' := by
  have hla : a.length ≤ maxLen := Nat.le_trans ha.cap ha.max
  have hlb : b.length ≤ maxLen := Nat.le_trans hb.cap hb.max
  unfold maxLen at hla hlb
  have HA := Lib.hid ha
  have HB := Lib.hid hb
  have HL := Lib.hid hL
  have HM := Lib.hid hm
  have HR := Lib.hid hr
  clear ha hb hL hm hr
  go_enter Tryz.func3, Tryz.ntmps3
  go_wp2_with fail
  refine (candidates_ a b A B ca cb live window step limit _ ((HA.out.below (by repeat (first | exact Below.refl _ _ | assumption | refine below_drewN ?_ _ | refine Below.drew ?_ | refine Below.setCell ?_ (by first | omega | (simp; done) | (simp; omega)) _ | refine Below.alloc ?_ (by first | omega | (simp; done) | (simp; omega)) _))).more (by first | omega | (simp; done) | (simp; omega))) ((HB.out.below (by repeat (first | exact Below.refl _ _ | assumption | refine below_drewN ?_ _ | refine Below.drew ?_ | refine Below.setCell ?_ (by first | omega | (simp; done) | (simp; omega)) _ | refine Below.alloc ?_ (by first | omega | (simp; done) | (simp; omega)) _))).more (by first | omega | (simp; done) | (simp; omega)))).mono ?_
  rintro e w1 hout
  cases hout with
  | no k hk he hb1 =>
    subst he
    have hk1 : (k != 0) = true := by simpa using hk
    have HB1 : Hid (Below w.heap.size w w1) := (show Below w.heap.size w _ from (by repeat (first | exact Below.refl _ _ | assumption | refine below_drewN ?_ _ | refine Below.drew ?_ | refine Below.setCell ?_ (by first | omega | (simp; done) | (simp; omega)) _ | refine Below.alloc ?_ (by first | omega | (simp; done) | (simp; omega)) _))).trans (hb1.mono (by first | omega | (simp; done) | (simp; omega)))
    clear hb1 hk
    go_wp2_with (go_at_call 6; refine (works_ _ (HR.out.below HB1.out)).mono ?_; rintro e w2 ⟨rfl, hb2⟩; have HB2 := Lib.hid (HB1.out.trans (hb2.mono HB1.out.size)); clear hb2)
    go_ret
    exact ⟨rfl, HB2.out⟩
  | ok q hq hq2 hlim hc l hl Q qc he ho hb1 =>
    subst he
    have HB1 : Hid (Below w.heap.size w w1) := (show Below w.heap.size w _ from (by repeat (first | exact Below.refl _ _ | assumption | refine below_drewN ?_ _ | refine Below.drew ?_ | refine Below.setCell ?_ (by first | omega | (simp; done) | (simp; omega)) _ | refine Below.alloc ?_ (by first | omega | (simp; done) | (simp; omega)) _))).trans (hb1.mono (by first | omega | (simp; done) | (simp; omega)))
    have HX1 : Hid (Below (w.heap.size + 1) (w.alloc (.cells #[.slice A a.length ca, .slice B b.length cb, .int .i64 live, .int .i64 window, .int .i64 step, .int .i64 limit, .slice N L.length nc, .int .i64 g, .int .i64 slack] 25)) w1) := hb1.mono (by first | omega | (simp; done) | (simp; omega))
    have HO1 := Lib.hid ho
    have HCL := Lib.hid hl
    have HLM := Lib.hid hlim
    have z1 := HX1.out.size
    simp only [World.size_alloc] at z1
    clear hb1 ho hl hq hc hlim
    go_wp2_with fail
    refine (ring_ w1).mono ?_
    rintro e w2 ⟨K, kc, Z, zc, rfl, hK, hZ, hb2⟩
    have HK2 := Lib.hid (Sl.of_own hK)
    have HZ2 := Lib.hid (Sl.of_own hZ)
    have HX2 : Hid (Below w1.heap.size w1 w2) := hb2
    have z2 := hb2.size
    clear hb2 hK hZ
    go_wp2_with fail
    refine (newBoard_t ringK 2 K kc _ ((HK2.out.alloc (Nat.le_refl _) _).more (by simp)) ring_ok).mono ?_
    rintro e w3 ⟨bb, rfl, hbb, hbd, hb3⟩
    simp only [World.size_alloc] at hbb hbd hb3
    have HBD := Lib.hid hbd
    have HX3 := Lib.hid hb3
    have z3 := hb3.size
    simp only [World.size_alloc] at z3
    clear hbd hb3
    go_wp2_with fail
    have he2 : NiEnv (w2.alloc (.cells #[.slice K 3 kc, .int .i64 2] 36)) (w2.heap.size + 1) w.heap.size a b A B ca cb live window step limit g slack L N nc l Q qc K kc Z zc := by
      have hx : Below (w.heap.size + 1) (w.alloc (.cells #[.slice A a.length ca, .slice B b.length cb, .int .i64 live, .int .i64 window, .int .i64 step, .int .i64 limit, .slice N L.length nc, .int .i64 g, .int .i64 slack] 25)) w2 := HX1.out.trans (HX2.out.mono z1)
      have hw : Below w.heap.size w w2 := HB1.out.trans (HX2.out.mono (by omega))
      have cx : ∀ j u, (#[.slice A a.length ca, .slice B b.length cb, .int .i64 live, .int .i64 window, .int .i64 step, .int .i64 limit, .slice N L.length nc, .int .i64 g, .int .i64 slack] : Array Value)[j]? = some u → (w2.alloc (.cells #[.slice K 3 kc, .int .i64 2] 36)).cell? ⟨w.heap.size, j, none⟩ = some u := fun j u hu =>
        (World.cell?_alloc_past (w := w2) _ _ _ (show w.heap.size < w2.heap.size by omega)).trans ((hx.cell (p := ⟨w.heap.size, j, none⟩) (Nat.lt_succ_self _)).trans (by rw [World.cell?_alloc_new]; exact hu))
      have al := (Below.refl w2.heap.size w2).alloc (Nat.le_refl _) (.cells #[.slice K 3 kc, .int .i64 2] 36)
      exact ⟨cx 0 _ rfl, cx 1 _ rfl, cx 5 _ rfl, cx 6 _ rfl, cx 7 _ rfl, cx 8 _ rfl, by omega,
        (((HA.out.below hw).more (by omega)).below al).more (by omega), (((HB.out.below hw).more (by omega)).below al).more (by omega), (((HL.out.below hw).more (by omega)).below al).more (by omega),
        ((((Sl.of_own HO1.out).below HX2.out).more z2).below al).more (by omega), (HK2.out.below al).more (by omega), (HZ2.out.below al).more (by omega), HR.out.below (hw.alloc (by omega) _), by simp⟩
    have HE := Lib.hid he2
    have HRX : Hid (∀ W, Below (w2.heap.size + 1) (w2.alloc (.cells #[.slice K 3 kc, .int .i64 2] 36)) W → Rdy W ∧ Below w.heap.size w W) := fun W hW => by
      have h1 : Below w.heap.size w W := ((HB1.out.trans (HX2.out.mono (by omega))).alloc (by omega) _).trans (hW.mono (by omega))
      exact ⟨HR.out.below h1, h1⟩
    have HCA : Hid (∀ x ∈ l, (0 ≤ x.p.1 ∧ x.p.1 < a.length ∧ 0 ≤ x.p.2.1 ∧ x.p.2.1 < b.length) ∧ 1 ≤ x.n ∧ x.n ≤ x.o ∧ x.o ≤ 256 ∧ x.n ≤ limit) := fun x hx => by
      rw [HCL.out] at hx
      obtain ⟨h1, h2, h3, h4⟩ := cand_mem hx
      rw [statL_len] at h4
      have := HLM.out
      exact ⟨h1, h2, by omega, by omega, h3⟩
    have HXB : Hid (Below (w2.heap.size + 1) (w2.alloc (.cells #[.slice K 3 kc, .int .i64 2] 36)) w3) := HX3.out
    clear he2
    obtain ⟨lo, hlo⟩ : ∃ lo, w2.heap.size + 1 = lo := ⟨_, rfl⟩
    have h2lo : w2.heap.size < lo := by omega
    have hwlo : w.heap.size < lo := by omega
    have hll : l.length ≤ maxLen := Nat.le_trans HE.out.l.cap HE.out.l.max
    unfold maxLen at hll
    rw [hlo] at HE HRX HXB HBD hbb
    obtain ⟨X0, hX0⟩ : ∃ X0, w2.alloc (.cells #[.slice K 3 kc, .int .i64 2] 36) = X0 := ⟨_, rfl⟩
    rw [hX0] at HE HRX HXB
    clear hX0 hlo HX3 HCL HLM
    go_loopw [9] (fun i wr => NiRel lo X0 bb l.length i wr) (fun i _ => l.length - (Go.RowKit.intOf i).toNat)
    case atStart => exact ⟨0, _, [], Nat.zero_le _, Nat.zero_le _, rfl, HBD.out.cut, (fun j hj => hj), ⟨(fun x hx => by cases hx), Nat.zero_le _⟩, HXB.out⟩
    case round =>
      obtain ⟨k, S, ns, hk, hk20, rfl, hbd, hS, hnb, hbw⟩ := hrel
      have HBD := Lib.hid hbd
      have HS := Lib.hid hS
      have HNB := Lib.hid hnb
      have HBW := Lib.hid hbw
      have HEW := Lib.hid (HE.out.below (HRX.out wr hbw).1 hbw)
      have hlor := HEW.out.lo
      clear hbd hS hnb hbw
      by_cases hlt : k < l.length
      · by_cases h20 : k < 20
        · have hkl : (k : Int) < (l.length : Int) := by omega
          have hk2 : (k : Int) < 20 := by omega
          obtain ⟨x0, x1, x5, x6, x7, x8, -, ea, eb, -, el, -, -, -, -⟩ := HEW.out
          obtain ⟨qb, qo, hQ, hqb, c0, c1, c2, c3, c4⟩ := el.cn_at hlt
          subst hQ
          have hca := HCA.out _ (List.getElem_mem hlt)
          obtain ⟨X, hX⟩ : ∃ X, l[k] = X := ⟨_, rfl⟩
          rw [hX] at c0 c1 c2 c3 c4 hca
          have HXC := Lib.hid hX
          obtain ⟨⟨p1, p2, p3⟩, xn, xo⟩ := X
          simp only at c0 c1 c2 c3 c4 hca
          obtain ⟨⟨q1, q2, q3, q4⟩, q5, q6, q7, q8⟩ := hca
          obtain ⟨ia, rfl⟩ : ∃ ia : Nat, p1 = (ia : Int) := ⟨p1.toNat, by omega⟩
          obtain ⟨ib, rfl⟩ : ∃ ib : Nat, p2 = (ib : Int) := ⟨p2.toNat, by omega⟩
          obtain ⟨ab, ao, hA2, hab, d0, -, -⟩ := ea.tr_at (k := ia) (by omega)
          obtain ⟨bk, bo, hB2, hbk, f0, -, -⟩ := eb.tr_at (k := ib) (by omega)
          subst hA2 hB2
          have hxw : w.heap.size < wr.heap.size := by omega
          have hqw : qb < wr.heap.size := by omega
          have haw : ab < wr.heap.size := by omega
          have hbkw : bk < wr.heap.size := by omega
          have ta : ia < a.length := by omega
          have tb : ib < b.length := by omega
          obtain ⟨s1, hs1⟩ : ∃ s1, a[ia].1 = s1 := ⟨_, rfl⟩
          obtain ⟨s2, hs2⟩ : ∃ s2, b[ib].1 = s2 := ⟨_, rfl⟩
          rw [hs1] at d0
          rw [hs2] at f0
          clear hX ea eb el hs1 hs2
          go_wp2_with fail
          clear c0 c1 c2
          refine wp_region_bwt 20 (by kernel_rfl) (by kernel_rfl) (fun hbwc => ?_)
          simp only [List.take_succ_cons, List.take_zero, List.drop_succ_cons, List.drop_zero]
          repeat (go_big_quiet_step (fail))
          refine wpQuiet_nil ?_
          clear hbwc
          intro w4 hb
          have HB4 : Hid (Below wr.heap.size wr w4) := (show Below wr.heap.size wr _ from (by repeat (first | exact Below.refl _ _ | assumption | refine below_drewN ?_ _ | refine Below.drew ?_ | refine Below.setCell ?_ (by first | omega | (simp; done) | (simp; omega)) _ | refine Below.alloc ?_ (by first | omega | (simp; done) | (simp; omega)) _))).trans (hb.mono (by simp))
          clear hb x0 x1 x5 x6 x7 x8 d0 f0
          have hz4 := HB4.out.size
          have HB5 : Hid (Below wr.heap.size wr (w4.alloc (.cells #[.int .i64 0, .int .i64 s1, .int .i64 slack, .int .i64 1, .int .i64 s2, .int .i64 slack] 49))) := HB4.out.alloc hz4 _
          have HT5 : Hid (Sl (w4.alloc (.cells #[.int .i64 0, .int .i64 s1, .int .i64 slack, .int .i64 1, .int .i64 s2, .int .i64 slack] 49)) (w4.heap.size + 1) 3 (some ⟨w4.heap.size, 0, none⟩) 2 2 (trCells [(0, s1, slack), (1, s2, slack)])) :=
            ⟨rfl, Nat.le_refl _, by unfold maxLen; omega, (fun h => by cases h), fun _ => ⟨w4.heap.size, 0, rfl, Nat.lt_succ_self _, fun j u hu => by rw [Nat.zero_add, World.cell?_alloc_new, ← Array.getElem?_toList]; exact hu⟩⟩
          have HE5 := Lib.hid (HEW.out.below (HRX.out _ (HBW.out.trans (HB5.out.mono hlor))).1 (HB5.out.mono hlor))
          have y6 := HE5.out.x6
          have y7 := HE5.out.x7
          have hz5 : (w4.alloc (.cells #[.int .i64 0, .int .i64 s1, .int .i64 slack, .int .i64 1, .int .i64 s2, .int .i64 slack] 49)).heap.size = w4.heap.size + 1 := by simp
          obtain ⟨w5, hw5⟩ : ∃ w5, w4.alloc (.cells #[.int .i64 0, .int .i64 s1, .int .i64 slack, .int .i64 1, .int .i64 s2, .int .i64 slack] 49) = w5 := ⟨_, rfl⟩
          have HFI := Lib.hid (fits_ L N (some ⟨w4.heap.size, 0, none⟩) nc 2 g [(0, s1, slack), (1, s2, slack)] w5)
          rw [hw5] at HB5 HT5 HE5 y6 y7 hz5
          have HZ5 := Lib.hid hz5
          clear hz5
          go_wp2_with fail
          obtain ⟨N6, hN6⟩ := sq_nat g
          refine (HFI.out (HE5.out.n.more HE5.out.lo) HM.out (HT5.out.more (by rw [HZ5.out]; exact Nat.le_refl _)) N6 hN6).mono ?_
          rintro e w6 ⟨sv, rfl, ho6, hb6⟩
          obtain ⟨CA, cc, rfl⟩ := own_form ho6
          have HO6 := Lib.hid ho6
          have HB6 : Hid (Below wr.heap.size wr w6) := HB5.out.trans (hb6.mono (by have := HB5.out.size; omega))
          have hz6 := HB6.out.size
          have HZ6 : Hid (w5.heap.size ≤ w6.heap.size) := hb6.size
          clear ho6 hb6 y6 y7
          obtain ⟨CL, hCL⟩ : ∃ CL, fitL L g [((0 : Int), s1, slack), (1, s2, slack)] N6 = CL := ⟨_, rfl⟩
          obtain ⟨v, hv⟩ : ∃ v, fitG L g [((0 : Int), s1, slack), (1, s2, slack)] = v := ⟨_, rfl⟩
          have HCLE := Lib.hid hCL
          have HVE := Lib.hid hv
          have HN6 := Lib.hid hN6
          rw [hCL] at HO6 ⊢
          rw [hv]
          clear hCL hv hN6
          by_cases hv0 : v = 0
          · by_cases hce : CL = []
            · obtain rfl := hv0
              obtain rfl := hce
              go_wp2_with fail
              go_roundw
              case rel => exact ⟨k + 1, S, ns, by omega, by omega, by go_num, HBD.out.below HB6.out, (fun j hj => ⟨(HS.out j hj).1, Nat.lt_of_lt_of_le (HS.out j hj).2 hz6⟩), HNB.out.next, HBW.out.trans (HB6.out.mono hlor)⟩
              case measure => simp [Go.RowKit.intOf]; omega
            · obtain rfl := hv0
              have hgr : 1 ≤ g ∧ g ≤ 8 := (netG_ok (fitG_ok HVE.out)).2.2
              have HNK : Hid (NightOk xn xo g CL) := ⟨q5, q6, q7, hgr.1, hgr.2, hce, by
                rw [← HCLE.out]
                unfold fitL
                rw [if_pos HVE.out]
                have := pick_rising (fitB (sites L) [((0 : Int), s1, slack), (1, s2, slack)]) g N6
                rw [HN6.out] at this
                rw [Int.mul_assoc]
                exact this⟩
              have hcl0 : 0 < CL.length := List.length_pos_iff.2 hce
              have hcl1 : ((CL.length : Int) == 0) = false := by simp; omega
              have hcl2 : (CL.length == 0) = false := by simp; omega
              clear hce hgr
              obtain ⟨de, hde⟩ : ∃ de : ByteArray, ⟨(Lib.itoa (k : Int)).toArray⟩ = de := ⟨_, rfl⟩
              have hdl : de.data.toList = dec20 k := by rw [← hde, itoa20 k h20]
              have hds : de.size ≤ 2 := by
                have e1 : de.size = de.data.toList.length := rfl
                rw [e1, hdl]
                unfold dec20
                split <;> simp
              have HDEC := decimal_ k (by omega) (by omega) w6
              rw [hde] at HDEC
              have HDC := Lib.hid HDEC
              have HDL := Lib.hid hdl
              clear hde hdl HDEC
              go_wp2_with (go_at_call 10; refine HDC.out.mono ?_; rintro e w' ⟨rfl, rfl⟩)
              obtain ⟨ev, hev⟩ : ∃ ev : ByteArray, ({ data := #[101] } : ByteArray) ++ de = ev := ⟨_, rfl⟩
              have hevn : ev.data.toList = evN k := by rw [← hev, ev_app, HDL.out]; rfl
              have HEN := Lib.hid hevn
              have HES : Hid (ev.size ≤ maxLen) := by
                have e1 : ev.size = ev.data.toList.length := rfl
                show ev.size ≤ maxLen
                rw [e1, hevn]
                unfold evN dec20 maxLen
                split <;> simp
              rw [hev]
              clear hev hevn hds
              have HOA : Hid (okA (nA ev xn xo g CL) = true) := nA_ok HNK.out (by rw [HEN.out]; exact evN_name k h20)
              have HD4 := Lib.hid (draftN_no ev xn xo g CL)
              have HD0 : Hid (draftR ev 100 xn xo limit g CL = (nA ev xn xo g CL, 0)) := draftN_yes q8 HOA.out
              have HE6 := Lib.hid (HEW.out.below (HRX.out w6 (HBW.out.trans (HB6.out.mono hlor))).1 (HB6.out.mono hlor))
              have HSL : Hid (∀ W, Below w6.heap.size w6 W → Sl W W.heap.size 1 CA CL.length cc (ints CL)) := fun W hW => ((Sl.of_own HO6.out).below hW).more hW.size
              have y7 := HE6.out.x7
              obtain ⟨qb', qo', hQ, -, c0, c1, c2, -, -⟩ := HE6.out.l.cn_at hlt
              cases hQ
              obtain ⟨_, _, hQ, -, -, -, -, c3, c4⟩ := HE6.out.l.cn_at hlt
              cases hQ
              rw [HXC.out] at c0 c1 c2 c3 c4
              simp only at c0 c1 c2 c3 c4
              have hqw : qb < w6.heap.size := by omega
              have hxw : w.heap.size < w6.heap.size := by omega
              have HCE : Hid (∀ W, Below w6.heap.size w6 W → W.cell? ⟨qb, qo + k * 5, none⟩ = some (.int .i64 ia) ∧ W.cell? ⟨qb, qo + k * 5 + 1, none⟩ = some (.int .i64 ib) ∧ W.cell? ⟨qb, qo + k * 5 + 2, none⟩ = some (.int .i64 p3) ∧ W.cell? ⟨qb, qo + k * 5 + 3, none⟩ = some (.int .i64 xn) ∧ W.cell? ⟨qb, qo + k * 5 + 4, none⟩ = some (.int .i64 xo) ∧ W.cell? ⟨w.heap.size, 5, none⟩ = some (.int .i64 limit) ∧ W.cell? ⟨w.heap.size, 7, none⟩ = some (.int .i64 g)) := fun W hW =>
                ⟨(hW.cell (p := ⟨qb, _, none⟩) hqw).trans c0, (hW.cell (p := ⟨qb, _, none⟩) hqw).trans c1, (hW.cell (p := ⟨qb, _, none⟩) hqw).trans c2, (hW.cell (p := ⟨qb, _, none⟩) hqw).trans c3, (hW.cell (p := ⟨qb, _, none⟩) hqw).trans c4, (hW.cell (p := ⟨w.heap.size, _, none⟩) hxw).trans HE6.out.x5, (hW.cell (p := ⟨w.heap.size, _, none⟩) hxw).trans HE6.out.x7⟩
              have s3 : IntKind.i64.wrap (xn - 1) = xn - 1 := IntWalk.i64_in _ (by omega)
              have DC : Below w6.heap.size w6 w6 := Below.refl _ _
              go_region_held3 (fun w' => ∀ b o, b < w6.heap.size → w'.cell? ⟨b, o, none⟩ = w6.cell? ⟨b, o, none⟩) (first | exact kN | exact fun b o h => rfl)
                (first
                | (go_at_call 11; refine (Draft_l ev 100 ia ib p3 xn xo (xn - 1) g CL CA cc Al.zero 4 _ rfl HD4.out HES.out (HSL.out _ (Below.trans DC (by (repeat (first | exact Below.refl _ _ | assumption | refine below_drewN ?_ _ | refine Below.drew ?_ | refine Below.setCell ?_ (by first | omega | (simp; done) | (simp; omega)) _ | refine Below.alloc ?_ (by first | omega | (simp; done) | (simp; omega)) _)))))).mono ?_; rintro e wn ⟨DA, dc, rfl, dr, hbn⟩; have sC := hbn.size; (try simp at sC); have DC := Below.trans DC (Below.trans (show Below w6.heap.size _ _ from (by (repeat (first | exact Below.refl _ _ | assumption | refine below_drewN ?_ _ | refine Below.drew ?_ | refine Below.setCell ?_ (by first | omega | (simp; done) | (simp; omega)) _ | refine Below.alloc ?_ (by first | omega | (simp; done) | (simp; omega)) _)))) (hbn.mono (by first | omega | (simp; done) | (simp; omega)))); have kN := (fun b o (h : b < w6.heap.size) => DC.cell (p := ⟨b, o, none⟩) h); clear hbn; clear dr))
              clear s3 c0 c1 c2 c3 c4 y7
              go_upto_region 20 with fail
              have HD7 : Hid (Below w6.heap.size w6 wn) := DC
              have hz7 := DC.size
              clear DC kN
              go_cut [15, 16] from 59 to 264 (fun s15 s16 wx => NiA w6 (nA ev xn xo g CL) s15 s16 wx)
              case first =>
                obtain ⟨c0, c1, c2, c3, c4, y5, y7⟩ := HCE.out w6 (Below.refl _ _)
                have hqw' : qb < wn.heap.size := by omega
                have hxw' : w.heap.size < wn.heap.size := by omega
                have DC : Below wn.heap.size wn wn := Below.refl _ _
                go_region_held3 (fun w' => ∀ b o, b < wn.heap.size → w'.cell? ⟨b, o, none⟩ = wn.cell? ⟨b, o, none⟩) (first | exact fun b o h => (Below.trans DC (show Below wn.heap.size _ _ from (by repeat (first | with_reducible exact Below.refl _ _ | with_reducible assumption | (with_reducible refine Below.setCell ?_ (by first | omega | (simp; done) | (simp; omega)) _) | (with_reducible refine Below.alloc ?_ (by first | omega | (simp; done) | (simp; omega)) _) | with_reducible refine Below.drew ?_ | with_reducible refine below_drewN ?_ _)))).cell (p := ⟨b, o, none⟩) h | exact kN | exact fun b o h => rfl)
                  (first
                  | (go_at_call 11; refine (Draft_l ev 100 ia ib p3 xn xo limit g CL CA cc (nA ev xn xo g CL) 0 _ rfl HD0.out HES.out (HSL.out _ (HD7.out.trans ((Below.trans DC (by (repeat (first | exact Below.refl _ _ | assumption | refine below_drewN ?_ _ | refine Below.drew ?_ | refine Below.setCell ?_ (by first | omega | (simp; done) | (simp; omega)) _ | refine Below.alloc ?_ (by first | omega | (simp; done) | (simp; omega)) _)))).mono hz7)))).mono ?_; rintro e wm ⟨DA, dc, rfl, dr, hbn⟩; (first | (with_reducible have bx0 := bx_callD (wn := wn) hbn) | (with_reducible have bx0 := bx_callA (wn := wn) hbn)); have bx := bx0 rfl; clear bx0; obtain ⟨⟨e0, e1, e2, e3, e4, e5, e6, e7, e8⟩, g0, g1, g2, g3, g4, g5, g6, g7, g8⟩ := bx_facts bx; have HBX2 := Lib.hid bx; clear bx; have HDR := Lib.hid dr; have HBN := Lib.hid hbn; have sC := hbn.size; (try simp at sC); have DC := Below.trans DC (Below.trans (show Below wn.heap.size _ _ from (by (repeat (first | exact Below.refl _ _ | assumption | refine below_drewN ?_ _ | refine Below.drew ?_ | refine Below.setCell ?_ (by first | omega | (simp; done) | (simp; omega)) _ | refine Below.alloc ?_ (by first | omega | (simp; done) | (simp; omega)) _)))) (hbn.mono (by first | omega | (simp; done) | (simp; omega)))); have kN := (fun b o (h : b < wn.heap.size) => DC.cell (p := ⟨b, o, none⟩) h); clear hbn; clear dr)
                  | (go_at_call 11; refine (Draft_l ev 100 ia ib p3 xn xo limit g CL CA cc (nA ev xn xo g CL) 0 _ rfl HD0.out HES.out (HSL.out _ (HD7.out.trans ((Below.trans DC (by (repeat (first | exact Below.refl _ _ | assumption | refine below_drewN ?_ _ | refine Below.drew ?_ | refine Below.setCell ?_ (by first | omega | (simp; done) | (simp; omega)) _ | refine Below.alloc ?_ (by first | omega | (simp; done) | (simp; omega)) _)))).mono hz7)))).mono ?_; rintro e wm ⟨DA, dc, rfl, dr, hbn⟩; have HDR := Lib.hid dr; have HBN := Lib.hid hbn; have sC := hbn.size; (try simp at sC); have DC := Below.trans DC (Below.trans (show Below wn.heap.size _ _ from (by (repeat (first | exact Below.refl _ _ | assumption | refine below_drewN ?_ _ | refine Below.drew ?_ | refine Below.setCell ?_ (by first | omega | (simp; done) | (simp; omega)) _ | refine Below.alloc ?_ (by first | omega | (simp; done) | (simp; omega)) _)))) (hbn.mono (by first | omega | (simp; done) | (simp; omega)))); have kN := (fun b o (h : b < wn.heap.size) => DC.cell (p := ⟨b, o, none⟩) h); clear hbn; clear dr))
                · go_wp2_with fail
                  go_meet
                  exact niA_1 HDR.out hz7 (Below.trans HD7.out (DC.mono hz7)) HES.out
                · go_wp2_with fail
                  go_meet
                  exact niA_2 (HBX2.out.store (nA ev xn xo g CL) DA dc) HDR.out (by simp) (kp_store _ _ (nA ev xn xo g CL) DA dc) HD7.out DC HES.out
              case rest =>
                obtain ⟨wx, pA, A1, c1, hwx, rfl, rfl, hnb1, hb1'⟩ := hcut
                subst hwx
                have HNA := Lib.hid hnb1
                have HBX := Lib.hid hb1'
                have hzx := hb1'.size
                have HL6 : Hid (∀ W, Below w6.heap.size w6 W → Below lo X0 W) := fun W hW => HBW.out.trans ((HB6.out.trans (hW.mono hz6)).mono hlor)
                have HBD6 := Lib.hid (HBD.out.below HB6.out)
                have HEZ : Hid (∀ W, Below lo X0 W → NiE W lo K kc Z zc) := fun W hW => by
                  have h := HE.out.below (HRX.out _ hW).1 hW
                  exact ⟨h.k, h.z, h.r, h.lo⟩
                have hcc0 : CL.length ≤ cc := (Sl.of_own HO6.out).cap
                clear hnb1 hb1' HD7 hz7
                go_step
                refine lni_21 HEZ.out HNK.out HEN.out HES.out h20 HNB.out (fun j hj => ⟨(HS.out j hj).1, Nat.lt_of_lt_of_le (HS.out j hj).2 hz6⟩) (by omega) ?_ hcl0 hcc0 hlt hqb hwlo HNA.out HBX.out HCE.out HSL.out HBD6.out HL6.out
                unfold NiNext
                intro v13 v15 v16 v17 v18 v19 v20 v21 v59 v60 v61 v62 v63 v64 v65 v66 v67 v68 v69 v70 v71 v72 v73 v74 v75 v76 v77 v78 v79 v80 v81 v82 v83 v84 v85 v86 v87 v88 v89 v90 v91 v92 v93 v94 v95 v96 v97 v98 v99 v100 v101 v102 v103 v104 v105 v106 v107 v108 v109 v110 v111 v112 v113 v114 v115 v116 v117 v118 v119 v120 v121 v122 v123 v124 v125 v126 v127 v128 v129 v130 v131 v132 v133 v134 v135 v136 v137 v138 v139 v140 v141 v142 v143 v144 v145 v146 v147 v148 v149 v150 v151 v152 v153 v154 v155 v156 v157 v158 v159 v160 v161 v162 v163 v164 v165 v166 v167 v168 v169 v170 v171 v172 v173 v174 v175 v176 v177 v178 v179 v180 v181 v182 v183 v184 v185 v186 v187 v188 v189 v190 v191 v192 v193 v194 v195 v196 v197 v198 v199 v200 v201 v202 v203 v204 v205 v206 v207 v208 v209 v210 v211 v212 v213 v214 v215 v216 v217 v218 v219 v220 v221 v222 v223 v224 v225 v226 v227 v228 v229 v230 v231 v232 v233 v234 v235 v236 v237 v238 v239 v240 v241 v242 v243 v244 v245 v246 v247 v248 v249 v250 v251 v252 v253 v254 v255 v256 v257 v258 v259 v260 v261 v262 v263 v264 W T3 ns3 hbd ht3 hnb hbl
                go_wp2_with fail
                go_roundw
                case rel => exact ⟨k + 1, T3, ns3, by omega, by omega, by go_num, hbd, ht3, hnb, hbl⟩
                case measure => simp [Go.RowKit.intOf]; omega
          · have hv1 : (v != 0) = true := by simpa using hv0
            go_wp2_with fail
            go_roundw
            case rel => exact ⟨k + 1, S, ns, by omega, by omega, by go_num, HBD.out.below HB6.out, (fun j hj => ⟨(HS.out j hj).1, Nat.lt_of_lt_of_le (HS.out j hj).2 hz6⟩), HNB.out.next, HBW.out.trans (HB6.out.mono hlor)⟩
            case measure => simp [Go.RowKit.intOf]; omega
        · obtain rfl : k = 20 := by omega
          have hk3 : ((20 : Nat) : Int) < (l.length : Int) := by omega
          have HRW := Lib.hid (HRX.out wr HBW.out)
          go_wp2_with fail
          refine (works_ _ HRW.out.1).mono ?_
          rintro e wE ⟨rfl, hb⟩
          have HBE : Hid (Below w.heap.size w wE) := HRW.out.2.trans (hb.mono HRW.out.2.size)
          clear hb
          go_wp2_with fail
          go_ret
          exact ⟨rfl, HBE.out⟩
      · obtain rfl : k = l.length := by omega
        have HRW := Lib.hid (HRX.out wr HBW.out)
        go_wp2_with fail
        refine (works_ _ HRW.out.1).mono ?_
        rintro e wE ⟨rfl, hb⟩
        have HBE : Hid (Below w.heap.size w wE) := HRW.out.2.trans (hb.mono HRW.out.2.size)
        clear hb
        go_wp2_with fail
        go_ret
        exact ⟨rfl, HBE.out⟩
end Go.Proofs.YtmpbhngjkbidcaaGreatDoor
