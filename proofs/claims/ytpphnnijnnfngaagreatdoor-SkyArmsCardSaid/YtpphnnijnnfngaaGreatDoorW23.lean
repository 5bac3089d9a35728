/-
  The walk of the sky's Plan (telescopes in order, weights and cells of the grid).
-/
import Derived.Test.YtpphnnijnnfngaaGreatDoorW22
import Derived.Test.YtpphnnijnnfngaaGreatDoorW15
namespace Go.Proofs.YtpphnnijnnfngaaGreatDoor
open Go.RowKit Al

theorem prizeF_in (ws o l : List Int) (ho : ∀ x ∈ o, 0 ≤ x ∧ x ≤ 1000) (hw : ∀ x ∈ ws, 0 ≤ x ∧ x ≤ 1000) : ∀ x ∈ prizeF ws o l, 0 ≤ x ∧ x ≤ 1000 := by
  induction l generalizing o with
  | nil => exact ho
  | cons a t ih =>
    rw [prizeF]
    refine ih _ fun x hx => ?_
    rcases List.mem_or_eq_of_mem_set hx with h | h
    · exact ho x h
    · subst h
      rw [List.getD_eq_getElem?_getD]
      cases hg : ws[a.toNat]? with
      | none => simp
      | some y => exact hw y (List.mem_of_getElem? hg)
theorem incB_in {many : Int} : ∀ {last : Int} {l : List Int}, incB many last l = true → ∀ x ∈ l, last < x ∧ x < many
  | _, [], _ => fun x hx => by cases hx
  | last, c :: t, h => fun x hx => by
    rw [incB] at h
    simp only [Bool.and_eq_true, Bool.not_eq_true', Bool.or_eq_false_iff, decide_eq_false_iff_not] at h
    rcases List.mem_cons.1 hx with rfl | hx
    · omega
    · have := incB_in h.2 x hx
      omega
theorem badW_no {ws : List Int} (h : badW ws = false) : ∀ x ∈ ws, 0 ≤ x ∧ x ≤ 1000 := fun x hx => by
  unfold badW at h
  have := List.any_eq_false.1 h x hx
  simp only [Bool.not_eq_true', Bool.not_eq_false] at this
  exact inB_true.1 this
theorem weighedB_yes {n : Int} {ws some : List Int} (h : weighedB n ws some = true) : (ws.length : Int) = 6 * n * n ∧ (∀ x ∈ ws, 0 ≤ x ∧ x ≤ 1000) ∧ ∀ x ∈ some, 0 ≤ x ∧ x < 6 * n * n := by
  unfold weighedB at h
  simp only [Bool.and_eq_true, decide_eq_true_eq, Bool.not_eq_true'] at h
  refine ⟨h.1.1, badW_no h.1.2, fun x hx => ?_⟩
  have := incB_in h.2 x hx
  omega
theorem takeF_false2 (o l : List Int) : (takeF false o l).2 = o := by
  induction l with
  | nil => rfl
  | cons a t ih => rw [takeF]; exact ih
theorem grown_set3 {W : World} {bb : Nat} {a b c : Value} : W.grownBy (((W.setCell ⟨bb, 0, none⟩ a).setCell ⟨bb, 1, none⟩ b).setCell ⟨bb, 2, none⟩ c) (some bb) := (grown_set.trans grown_set).trans grown_set
theorem v3C_one (v : V3) : ∀ u ∈ v3C v, u.oneCell' = true := by
  intro u hu
  simp [v3C] at hu
  rcases hu with rfl | rfl | rfl <;> rfl
theorem infoLook : (Tryz.prog.info? 62).map (fun i => (i.zero, i.size, i.bytes)) = some (some (.agg #[.int .i64 0, .int .i64 0, .int .i64 0]), 3, 24) := by kernel_rfl
/-- A plan and its gain are handed back. -/
def PlanT (st : PSt) (w : World) (e : Ending) (w' : World) : Prop := ∃ PA pc, e = .returned (.tuple #[.slice PA st.pl.length pc, .int .i64 st.g, .int .i64 0]) ∧ Sl w' w'.heap.size 3 PA st.pl.length pc (zsC st.pl) ∧ Below w.heap.size w w'
structure PlC where
  wb : Nat
  mb : Nat
  lb : Nat
  nn : Nat
  LA : Option Addr
  lc : Nat
  L : List Scp
  n : Int
  N : Nat
def PlRel (C : PlC) (w : World) (F : Nat → PSt) (m : Nat) (o g i : Value) (wr : World) : Prop :=
  ∃ (k : Nat) (R : Nat → Prop) (PA : Option Addr) (pc : Nat), k ≤ m ∧ i = .int .i64 (k : Int) ∧ o = .slice PA (F k).pl.length pc ∧ g = .int .i64 (F k).g ∧ Hid (PlW R w.heap.size C.wb C.mb C.lb C.nn C.LA C.lc C.L C.n C.N w (F k).lf PA pc (F k).pl wr)
def PbRel (C : PlC) (w : World) (R : Nat → Prop) (PA : Option Addr) (pc : Nat) (st : PSt) (bb : Nat) (l : List Int) (v : Value) (F : Nat → V3 × Int) (mo i : Value) (wr : World) : Prop :=
  ∃ k : Nat, k ≤ l.length ∧ i = .int .i64 (k : Int) ∧ mo = .int .i64 (F k).2 ∧ Hid (PlW R w.heap.size C.wb C.mb C.lb C.nn C.LA C.lc C.L C.n C.N w st.lf PA pc st.pl wr) ∧ Hid (Bx3 wr bb (F k).1) ∧ Hid (SeesV wr R C.mb l v)
set_option maxRecDepth 100000 in
set_option maxHeartbeats 8000000 in
theorem plan_ (L : List Scp) (m : Nat) (hok : ScsOk L m) (LA : Option Addr) (lc : Nat) (n : Int) (h1 : 1 ≤ n) (h8 : n ≤ 8) (N : Nat) (hN : (N : Int) = 6 * (n * n)) (ws sm : List Int) (A B : Option Addr) (c d : Nat) (w : World) (hL : Sl w w.heap.size 6 LA L.length lc (scsC L)) (hz : ∀ x ∈ L, Sl w w.heap.size 3 x.ZA x.zs.length x.zc (zsC x.zs))
    (hw : Sl w w.heap.size 1 A ws.length c (ints ws)) (hs : Sl w w.heap.size 1 B sm.length d (ints sm)) (hwt : weighedB n ws sm = true) :
    Calls Tryz.prog 15 #[.slice LA L.length lc, .int .i64 n, .slice A ws.length c, .slice B sm.length d] w (PlanT (planF n N L ⟨prizeF ws (List.replicate ws.length 0) sm, [], 0⟩ m) w) := by
  obtain ⟨i0, hi, hz0, hz1, hz2⟩ := info_parts infoLook
  obtain ⟨q1, q2, q3⟩ := weighedB_yes hwt
  have hsq := sq_in h1 h8
  have hnn : (6 : Int) * n * n = 6 * (n * n) := by rw [Int.mul_assoc]
  have hwN : ws.length = N := by omega
  have hN0 : 0 < N := by omega
  have hN384 : N ≤ 384 := by omega
  have HWT := Lib.hid hwt
  have HOKS := Lib.hid hok
  have HWA := Lib.hid (watching_ok L m hok LA lc n h1 h8 N w hL hz)
  have HWE : Hid (∀ W, Below w.heap.size w W → Calls Tryz.prog 35 #[.int .i64 n, .slice A ws.length c, .slice B sm.length d] W fun e w' => e = .returned (.bool true) ∧ ∃ q, w' = W.drewN q) := fun W hW => by
    have h := weighed_ n h1 h8 ws sm A B c d W ((hw.below hW).more hW.size) ((hs.below hW).more hW.size)
    rw [hwt] at h
    exact h
  have HPR : Hid (∀ W, Below w.heap.size w W → Calls Tryz.prog 43 #[.slice A ws.length c, .slice B sm.length d] W (PrT ws sm W)) := fun W hW => prize_ ws sm A B c d W ((hw.below hW).more hW.size) ((hs.below hW).more hW.size) (fun x hx => by have := q3 x hx; omega) (by omega) (by omega)
  have HLF : Hid (∀ x ∈ prizeF ws (List.replicate ws.length 0) sm, 0 ≤ x ∧ x ≤ 1000) := prizeF_in ws _ sm (fun x hx => by rw [List.eq_of_mem_replicate hx]; omega) q2
  obtain ⟨st0, hst0⟩ : ∃ st : PSt, (⟨prizeF ws (List.replicate ws.length 0) sm, [], 0⟩ : PSt) = st := ⟨_, rfl⟩
  have HS0 := Lib.hid hst0
  have HSOK : Hid (st0.ok N 0) := by
    show PSt.ok N 0 st0
    rw [← hst0]
    exact ⟨HLF.out, by rw [prizeF_len, List.length_replicate]; exact hwN, Int.le_refl _, by simp, by simp⟩
  rw [hst0]
  have hm8 : m ≤ 8 := by have := (hok.ok _ (List.getElem_mem (show 0 < L.length from hok.l1))); have h2 := this.zm; have h3 := this.z8; omega
  have hl4 := hok.l4
  have hl1 := hok.l1
  have hlc := hL.cap
  have HLL := Lib.hid hL
  have HWN := Lib.hid hwN
  clear hL hz hw hs hwt hok q1 q2 q3 hnn hst0 hwN
  go_enter Tryz.func15, Tryz.ntmps15
  go_wp2_with fail
  refine HWA.out.mono ?_
  rintro e w1 ⟨wb, mb, rfl, hwa, hb⟩
  have HA1 := Lib.hid hwa
  have HB1 := Lib.hid hb
  clear hwa hb
  go_wp2_with fail
  refine (HWE.out _ HB1.out).mono ?_
  rintro e w' ⟨rfl, q, rfl⟩
  obtain ⟨w2, hw2⟩ : ∃ W, w1.drewN q = W := ⟨_, rfl⟩
  have HB12 : Hid (Below w1.heap.size w1 w2) := by show Below _ _ _; rw [← hw2]; exact below_drewN (Below.refl _ _) q
  rw [hw2]
  clear hw2
  go_wp2_with fail
  refine (HPR.out _ (HB1.out.trans (HB12.out.mono HB1.out.size))).mono ?_
  rintro e w3 ⟨rfl, hO3, hb⟩
  rw [HWN.out] at hO3 ⊢
  have HO3 := Lib.hid hO3
  have HB3 := Lib.hid hb
  have hz12 := HB12.out.size
  have hzw2 := HB1.out.size
  have hz3 := hb.size
  have hlb3 : w2.heap.size < w3.heap.size := (hO3.lt w2.heap.size rfl).2
  have HP3 : Hid (PlW (fun r => False ∨ r = w2.heap.size) w.heap.size wb mb w2.heap.size N LA lc L n N w st0.lf none 0 st0.pl w3) := by
    have e1 : st0.lf = prizeF ws (List.replicate N 0) sm := by rw [← HS0.out, HWN.out]
    have e2 : st0.pl = [] := by rw [← HS0.out]
    rw [e1, e2]
    refine ⟨⟨_, ((HA1.out.below HB12.out).ext (Nat.le_refl _)).below hb⟩, .inr rfl, fun r hr => ?_, own_le hO3 (by omega), World.ownsRow_nil _ _ _ _, (fun g hg => by cases hg), HB1.out.trans ((HB12.out.mono hzw2).trans (hb.mono (by omega)))⟩
    rcases hr with hr | rfl
    · exact hr.elim
    · exact hlb3
  clear hb hO3
  have hg0 : st0.g = 0 := by rw [← HS0.out]
  have hp0 : st0.pl.length = 0 := by rw [← HS0.out]; rfl
  obtain ⟨x0, hx0⟩ : ∃ x, L[0]'(by omega) = x := ⟨_, rfl⟩
  obtain ⟨sb, so, rfl, hsb, c0, c1, c2, c3, c4, c5⟩ := (HLL.out.below HP3.out.bl).sc_at (k := 0) (by omega)
  simp only [Nat.zero_mul, Nat.add_zero] at c5
  rw [hx0, show x0.zs.length = m by rw [← hx0]; exact (HOKS.out.ok _ (List.getElem_mem _)).zm] at c5
  have hHG := Lib.hid hg0
  have hHP := Lib.hid hp0
  clear c0 c1 c2 c3 c4 hx0 hg0 hp0
  have hl4' : (L.length : Int) ≤ 4 := by omega
  have hl1' : (1 : Int) ≤ (L.length : Int) := by omega
  have hlc' : (L.length : Int) ≤ (lc : Int) := by omega
  have HKS : Hid (∀ t s x, t < m → s < L.length → L[s]? = some x → ∃ k : Fin 32, k.1 / 4 = t ∧ k.1 % 4 = s ∧ L[k.1 % 4]? = some x ∧ k.1 / 4 < x.zs.length) := fun t s x ht hs hx => ⟨⟨t * 4 + s, by omega⟩, by show (t * 4 + s) / 4 = t; omega, by show (t * 4 + s) % 4 = s; omega, by show L[(t * 4 + s) % 4]? = _; rw [show (t * 4 + s) % 4 = s by omega]; exact hx, by
    show (t * 4 + s) / 4 < _
    rw [show (t * 4 + s) / 4 = t by omega, (HOKS.out.ok x (List.mem_of_getElem? hx)).zm]
    exact ht⟩
  obtain ⟨F, hF⟩ : ∃ F : Nat → PSt, (fun k => planF n N L st0 k) = F := ⟨_, rfl⟩
  have HF : Hid (∀ k, F k = planF n N L st0 k) := fun k => by rw [← hF]
  have HFS : Hid (∀ k, F (k + 1) = rowF n N L (F k) k L.length) := fun k => by rw [HF.out, HF.out, planF_succ]
  have HFO : Hid (∀ k, (F k).ok N (k * L.length)) := fun k => by rw [HF.out]; exact planF_ok hN384 HSOK.out k
  rw [show planF n N L st0 m = F m by rw [HF.out]]
  clear hF
  go_wp2_with fail
  go_loopw [8, 9, 45] (fun o g i wr => PlRel ⟨wb, mb, w2.heap.size, N, some ⟨sb, so, none⟩, lc, L, n, N⟩ w F m o g i wr) (fun _ _ i _ => m - (intOf i).toNat)
  case atStart =>
    refine ⟨0, fun r => False ∨ r = w2.heap.size, none, 0, Nat.zero_le _, rfl, ?_, ?_, Lib.hid ?_⟩
    · rw [HF.out]; show _ = Value.slice none st0.pl.length 0; rw [hHP.out]
    · rw [HF.out]; show _ = Value.int .i64 st0.g; rw [hHG.out]
    · rw [HF.out]
      exact HP3.out
  case round =>
    obtain ⟨t, R, PA, pc, ht, rfl, rfl, rfl, HP0⟩ := hrel
    have HP : Hid (PlW R w.heap.size wb mb w2.heap.size N (some ⟨sb, so, none⟩) lc L n N w (F t).lf PA pc (F t).pl wr) := HP0
    clear HP0
    by_cases htm : t < m
    · have htm' : (t : Int) < (m : Int) := by omega
      obtain ⟨st, hst⟩ : ∃ st, F t = st := ⟨_, rfl⟩
      have HST := Lib.hid hst
      rw [hst] at HP ⊢
      clear hst
      obtain ⟨G, hG⟩ : ∃ G : Nat → PSt, (fun k => rowF n N L st t k) = G := ⟨_, rfl⟩
      have HGE : Hid (∀ k, G k = rowF n N L st t k) := fun k => by rw [← hG]
      have hG0 : st = G 0 := by rw [← hG]; rfl
      rw [hG0] at HP ⊢
      clear hG hG0
      go_wp2_with fail
      go_loopw [8, 9, 50] (fun o g i wr => PlRel ⟨wb, mb, w2.heap.size, N, some ⟨sb, so, none⟩, lc, L, n, N⟩ w G L.length o g i wr) (fun _ _ i _ => L.length - (intOf i).toNat)
      case atStart => exact ⟨0, R, PA, pc, Nat.zero_le _, rfl, rfl, rfl, HP⟩
      case round =>
        obtain ⟨s, R, PA, pc, hs, rfl, rfl, rfl, HP0⟩ := hrel
        have HP : Hid (PlW R w.heap.size wb mb w2.heap.size N (some ⟨sb, so, none⟩) lc L n N w (G s).lf PA pc (G s).pl wr) := HP0
        clear HP0
        by_cases hsm : s < L.length
        · have hsm' : (s : Int) < (L.length : Int) := by omega
          obtain ⟨x, hx⟩ : ∃ x, L[s] = x := ⟨_, rfl⟩
          have hxs : L[s]? = some x := by rw [List.getElem?_eq_getElem hsm, hx]
          have hxd : L.getD s default = x := by rw [List.getD_eq_getElem?_getD, hxs]; rfl
          obtain ⟨st1, hst1⟩ : ∃ st1, G s = st1 := ⟨_, rfl⟩
          have HS1 : Hid (G (s + 1) = stepF n N L t st1 s) := by show _ = _; rw [HGE.out, rowF_succ, ← HGE.out, hst1]
          have HOK1 : Hid (st1.ok N 32) := by
            show PSt.ok N 32 st1
            have h := rowF_ok hN384 (n := n) (L := L) (t := t) (HFO.out t) s
            rw [HST.out, ← HGE.out, hst1] at h
            have h32 : t * L.length + s ≤ 32 := by
              have h1 : t * L.length ≤ 7 * L.length := Nat.mul_le_mul_right _ (by omega)
              omega
            exact ⟨h.lf, h.ln, h.g0, by have := h.g1; omega, by have := h.pl; omega⟩
          obtain ⟨kk, hk4, hkm, hkx, hkz⟩ := HKS.out t s x htm hsm hxs
          have HSE : Hid (∀ W R' f', WAt W R' w.heap.size wb mb (some ⟨sb, so, none⟩) lc L n N f' → (∀ r, R' r → r < W.heap.size) → Calls Tryz.prog 44 #[.pointer (some ⟨wb, 0, none⟩), .int .i64 (t : Int), .int .i64 (s : Int)] W (SeesT W R' w.heap.size wb mb (some ⟨sb, so, none⟩) lc L n N (seesX n N x t))) := fun W R' f' hW hR => by
            have h := sees_ R' w.heap.size wb mb (some ⟨sb, so, none⟩) lc L n h1 h8 N hN f' kk x hkx hkz W hW hR
            rw [hk4, hkm] at h
            exact h
          have HCV : Hid (∀ W R' f' (cc : Int), 0 ≤ cc → cc < N → WAt W R' w.heap.size wb mb (some ⟨sb, so, none⟩) lc L n N f' → (∀ r, R' r → r < W.heap.size) → Calls Tryz.prog 46 #[.pointer (some ⟨wb, 0, none⟩), .agg #[.int .i64 (t : Int), .int .i64 (s : Int), .int .i64 cc]] W (SeesT W R' w.heap.size wb mb (some ⟨sb, so, none⟩) lc L n N (coversX n N x t cc))) := fun W R' f' cc h0 hlt hW hR => by
            have h := covers_ R' w.heap.size wb mb (some ⟨sb, so, none⟩) lc L n h1 h8 N hN f' kk x hkx hkz cc h0 hlt W hW hR
            rw [hk4, hkm] at h
            exact h
          have HXD := Lib.hid hxd
          rw [hst1] at HP ⊢
          have hmbw := HP.out.b0
          have hlbw := HP.out.rs _ HP.out.rl
          have HP1 := Lib.hid (HP.out.alloc (.cells #[.int .i64 0, .int .i64 0, .int .i64 0] 62))
          have HBX1 : Hid (Bx3 (wr.alloc (.cells #[.int .i64 0, .int .i64 0, .int .i64 0] 62)) wr.heap.size (0, 0, 0)) := heap_alloc_new wr _
          have HPB : Hid ((Value.slice PA st1.pl.length pc).ownBlock ≠ some wr.heap.size) := fun e => by have := HP.out.rs _ (HP.out.pR _ e).1; omega
          obtain ⟨bb, hbb⟩ : ∃ b, wr.heap.size = b := ⟨_, rfl⟩
          have hbm : bb ≠ mb := by omega
          have hbl : bb ≠ w2.heap.size := by omega
          clear hx hxs hxd hst1 hk4 hkm hkx hkz
          go_wp2_with fail
          obtain ⟨f1, hw1⟩ := HP1.out.ww
          refine (HSE.out _ _ f1 hw1 HP1.out.rs).mono ?_
          clear hw1
          rintro e w5 ⟨v, f5, rfl, ⟨VA, vc, rfl, hsl, hne⟩, hwa, hg⟩
          have HP5 := Lib.hid (HP1.out.mapped hg ⟨f5, hwa⟩)
          have HBX5 := Lib.hid (HBX1.out.grown hg (by rw [hbb]; exact hbm))
          have HSV5 : Hid (SeesV w5 (fun r => R r ∨ r = wr.heap.size) mb (seesX n N x t) (.slice VA (seesX n N x t).length vc)) := ⟨VA, vc, rfl, hsl, hne⟩
          rw [hbb] at HP5 HBX5 HSV5 HPB
          have HR1 : Hid (∃ R1 : Nat → Prop, (fun r => R r ∨ r = bb) = R1 ∧ R1 bb) := ⟨_, rfl, .inr rfl⟩
          obtain ⟨R1, hR1, hRb⟩ := HR1.out
          rw [hR1] at HP5 HSV5
          obtain ⟨l, hl⟩ : ∃ l, seesX n N x t = l := ⟨_, rfl⟩
          have HIN : Hid (∀ c ∈ l, 0 ≤ c ∧ c < (N : Int)) := fun c hc => seesX_in (by rw [hl]; exact hc)
          have HLS := Lib.hid hl
          rw [hl] at HSV5
          have hvc : (seesX n N x t).length ≤ vc := hsl.cap
          have hll : l.length ≤ 384 := by
            have h1 : l.length ≤ N := by
              rw [← hl]
              unfold seesX pickL
              rw [List.length_map]
              exact Nat.le_trans (List.length_filter_le _ _) (by rw [cellsL_len]; exact Nat.le_refl _)
            omega
          rw [hl] at hvc ⊢
          clear hl hsl hne hwa hg HR1 HP HP1 HBX1
          clear hbb
          obtain ⟨BF, hBF⟩ : ∃ BF : Nat → V3 × Int, (fun k => bestF n N x t s st1.lf ((0, 0, 0), 0) (l.take k)) = BF := ⟨_, rfl⟩
          have HBF : Hid (∀ k, BF k = bestF n N x t s st1.lf ((0, 0, 0), 0) (l.take k)) := fun k => by rw [← hBF]
          have hBF0 : BF 0 = ((0, 0, 0), 0) := by rw [← hBF]; rfl
          have hB1 : (0 : Int) = (BF 0).2 := by rw [hBF0]
          rw [show ((0, 0, 0) : V3) = (BF 0).1 by rw [hBF0]] at HBX5
          have HB10 := Lib.hid hB1
          clear hBF hBF0 hB1
          go_wp2_with fail
          go_loopw [16, 59] (fun mo i wr => PbRel ⟨wb, mb, w2.heap.size, N, some ⟨sb, so, none⟩, lc, L, n, N⟩ w R1 PA pc st1 bb l (.slice VA l.length vc) BF mo i wr) (fun _ i _ => l.length - (intOf i).toNat)
          case atStart => exact ⟨0, Nat.zero_le _, rfl, by rw [← HB10.out], HP5, HBX5, HSV5⟩
          case round =>
            obtain ⟨k, hk, rfl, rfl, HP0, HBX, HSV⟩ := hrel
            have HP : Hid (PlW R1 w.heap.size wb mb w2.heap.size N (some ⟨sb, so, none⟩) lc L n N w st1.lf PA pc st1.pl wr) := HP0
            clear HP0
            have hbw := HBX.out.lt
            by_cases hlt : k < l.length
            · obtain ⟨VA', vc', he, hsl, hne⟩ := HSV.out
              cases he
              obtain ⟨tb, tof, rfl, htb, c0⟩ := hsl.int_at hlt hlt
              obtain ⟨cv, hcv⟩ : ∃ c, l[k] = c := ⟨_, rfl⟩
              have hin := HIN.out cv (by rw [← hcv]; exact List.getElem_mem hlt)
              have HBS : Hid (BF (k + 1) = if (BF k).2 < (takeF false st1.lf (coversX n N x t cv)).1 then (((t : Int), (s : Int), cv), (takeF false st1.lf (coversX n N x t cv)).1) else BF k) := by
                show _ = _
                rw [HBF.out, HBF.out, List.take_succ_eq_append_getElem hlt, bestF_snoc, hcv]
              rw [hcv] at c0
              have hlt' : (k : Int) < (l.length : Int) := by omega
              have HPX := Lib.hid (HP.out.below ((Below.refl _ _).alloc (Nat.le_refl _) (.cells #[.int .i64 (t : Int), .int .i64 (s : Int), .int .i64 cv] 62)))
              have HBXX := Lib.hid (HBX.out.below ((Below.refl _ _).alloc (Nat.le_refl _) (.cells #[.int .i64 (t : Int), .int .i64 (s : Int), .int .i64 cv] 62)))
              have HSVX := Lib.hid (HSV.out.below ((Below.refl _ _).alloc (Nat.le_refl _) (.cells #[.int .i64 (t : Int), .int .i64 (s : Int), .int .i64 cv] 62)))
              have HXB : Hid (Bx3 (wr.alloc (.cells #[.int .i64 (t : Int), .int .i64 (s : Int), .int .i64 cv] 62)) wr.heap.size ((t : Int), (s : Int), cv)) := heap_alloc_new wr _
              obtain ⟨xb, hxb⟩ : ∃ b, wr.heap.size = b := ⟨_, rfl⟩
              have hb0 := HP.out.b0
              have hlb0 := HP.out.rs _ HP.out.rl
              have hxm : xb ≠ mb := by omega
              have hxl : xb ≠ w2.heap.size := by omega
              have hxbb : xb ≠ bb := by omega
              rw [hxb] at HXB
              obtain ⟨cl, hcl⟩ : ∃ cl, coversX n N x t cv = cl := ⟨_, rfl⟩
              have HCI : Hid (∀ y ∈ cl, 0 ≤ y ∧ y < (N : Int)) := fun y hy => coversX_in (by rw [hcl]; exact hy)
              have hcll : cl.length ≤ 384 := by have := coversX_len n N x t cv; rw [hcl] at this; omega
              rw [hcl] at HBS
              obtain ⟨f6, hw6⟩ := HPX.out.ww
              have HCC := HCV.out _ R1 f6 cv hin.1 hin.2 hw6 HPX.out.rs
              rw [hcl] at HCC
              have HCCC := Lib.hid HCC
              clear hsl hne hcv hcl hw6 HCC hb0
              go_wp2_with fail
              refine HCCC.out.mono ?_
              rintro e w6 ⟨v6, f7, rfl, ⟨VB, vd, rfl, hs6, hne6⟩, hwa6, hg6⟩
              have HP6 := Lib.hid (HPX.out.mapped hg6 ⟨f7, hwa6⟩)
              have HBX6 := Lib.hid (HBXX.out.grown hg6 hbm)
              have HSV6 := Lib.hid (HSVX.out.grown hg6 (.inl rfl))
              have HXB6 := Lib.hid (HXB.out.grown hg6 hxm)
              have HTK := Lib.hid (take_ false st1.lf cl w2.heap.size N w.heap.size VB vd w6 HP6.out.lr hs6 (fun b o h0 hb e => (hne6 b o h0 hb).2 (e ▸ HP6.out.rl)) HOK1.out.lf HCI.out hcll hN384)
              clear hs6 hne6 hwa6 hg6
              go_wp2_with fail
              refine HTK.out.mono ?_
              rintro e w7 ⟨rfl, hO7, hg7⟩
              rw [takeF_false2] at hO7
              have HP7 := Lib.hid (HP6.out.took hg7 hO7)
              have HBX7 := Lib.hid (HBX6.out.grown hg7 hbl)
              have HSV7 := Lib.hid (HSV6.out.grown hg7 (.inr HP6.out.rl))
              have HXB7 := HXB6.out.grown hg7 hxl
              have y0 := HXB7.c0
              have y1 := HXB7.c1
              have y2 := HXB7.c2
              have z0 := HBX7.out.c0
              have z1 := HBX7.out.c1
              have z2 := HBX7.out.c2
              have u0 := HBX7.out.f 0
              have u1 := HBX7.out.f 1
              have u2 := HBX7.out.f 2
              have zl := HBX7.out.lt
              obtain ⟨K, hK⟩ : ∃ K, (takeF false st1.lf cl).1 = K := ⟨_, rfl⟩
              rw [hK] at HBS ⊢
              clear hO7 hg7 hK HXB7 hxb
              by_cases hgt : (BF k).2 < K
              · have HBN : Hid (BF (k + 1) = (((t : Int), (s : Int), cv), K)) := by show _ = _; rw [HBS.out, if_pos hgt]
                have HP8 := Lib.hid (HP7.out.other (grown_set3 (W := w7) (bb := bb) (a := .int .i64 (t : Int)) (b := .int .i64 (s : Int)) (c := .int .i64 cv)) hRb hbl HPB.out)
                have HBX8 := Lib.hid (HBX7.out.set (t : Int) (s : Int) cv)
                have HSV8 := Lib.hid (HSV7.out.grown (grown_set3 (W := w7) (bb := bb) (a := .int .i64 (t : Int)) (b := .int .i64 (s : Int)) (c := .int .i64 cv)) (.inr hRb))
                go_wp2_with fail
                go_roundw
                case rel => exact ⟨k + 1, by omega, by go_num, by rw [HBN.out], HP8, by rw [HBN.out]; exact HBX8, HSV8⟩
                case measure => simp [intOf]; omega
              · have HBN : Hid (BF (k + 1) = BF k) := by show _ = _; rw [HBS.out, if_neg hgt]
                go_wp2_with fail
                go_roundw
                case rel => exact ⟨k + 1, by omega, by go_num, by rw [HBN.out], HP7, by rw [HBN.out]; exact HBX7, HSV7⟩
                case measure => simp [intOf]; omega
            · obtain rfl : k = l.length := by omega
              have HS2 : Hid (G (s + 1) = if 0 < (BF l.length).2 then ⟨(takeF true st1.lf (coversX n N x t (BF l.length).1.2.2)).2, st1.pl ++ [(BF l.length).1], st1.g + (takeF true st1.lf (coversX n N x t (BF l.length).1.2.2)).1⟩ else st1) := by
                show _ = _
                rw [HS1.out, HBF.out, List.take_length]
                unfold stepF
                rw [HXD.out, HLS.out]
              have HIB : Hid (0 ≤ (BF l.length).2 ∧ (0 < (BF l.length).2 → ∃ c ∈ l, BF l.length = (((t : Int), (s : Int), c), (takeF false st1.lf (coversX n N x t c)).1))) := by
                show _ ∧ _
                rw [HBF.out, List.take_length]
                exact bestF_in n N x t s st1.lf l
              by_cases hpos : 0 < (BF l.length).2
              · obtain ⟨cb, hcb, he⟩ := HIB.out.2 hpos
                have HN : Hid (G (s + 1) = ⟨(takeF true st1.lf (coversX n N x t cb)).2, st1.pl ++ [((t : Int), (s : Int), cb)], st1.g + (takeF true st1.lf (coversX n N x t cb)).1⟩) := by
                  show _ = _
                  rw [HS2.out, if_pos hpos, he]
                have hin := HIN.out cb hcb
                have h1 : (BF l.length).1 = ((t : Int), (s : Int), cb) := by rw [he]
                rw [h1] at HBX
                have HPX := Lib.hid (HP.out.below ((Below.refl _ _).alloc (Nat.le_refl _) (.cells #[.int .i64 (t : Int), .int .i64 (s : Int), .int .i64 cb] 62)))
                have HBXX := Lib.hid (HBX.out.below ((Below.refl _ _).alloc (Nat.le_refl _) (.cells #[.int .i64 (t : Int), .int .i64 (s : Int), .int .i64 cb] 62)))
                have z0 := HBX.out.c0
                have z1 := HBX.out.c1
                have z2 := HBX.out.c2
                have hp32 := HOK1.out.pl
                have hg0 := HOK1.out.g0
                have hg1 := HOK1.out.g1
                have hb00 := HP.out.b0.1
                obtain ⟨cl, hcl⟩ : ∃ cl, coversX n N x t cb = cl := ⟨_, rfl⟩
                have HCI : Hid (∀ y ∈ cl, 0 ≤ y ∧ y < (N : Int)) := fun y hy => coversX_in (by rw [hcl]; exact hy)
                have hcll : cl.length ≤ 384 := by have := coversX_len n N x t cb; rw [hcl] at this; omega
                have HCC := Lib.hid (fun W R' f' => HCV.out W R' f' cb hin.1 hin.2)
                simp only [hcl] at HCC HN
                obtain ⟨k1, k2, k3⟩ := takeF_in true st1.lf cl HOK1.out.lf
                obtain ⟨K, hK⟩ : ∃ K, (takeF true st1.lf cl).1 = K := ⟨_, rfl⟩
                have HK := Lib.hid hK
                rw [hK] at HN k2 k3
                clear he h1 hcb hcl hK k1
                go_wp2_with (at_builtin; go_must (refine wpList_append_lies _ rfl _ _ 54 rfl w.heap.size 62 i0 (.agg #[.int .i64 0, .int .i64 0, .int .i64 0]) 3 24 Tryz.underlying54 hi hz0 hz1 hz2 rfl (by decide) (.slice PA st1.pl.length pc) st1.pl.length _ rfl HPX.out.pr _ 1 1 (v3C ((t : Int), (s : Int), cb)) rfl rfl (World.news_of_block (heap_alloc_new wr _)) (v3C_one _) (by decide) (by unfold maxLen; omega) (by omega) (by simp; omega) _ rfl ?_); intro g cap w6 hown6 hg6 hat6 hlt6; have z6 := hg6.size; (try simp at z6); have HBX6 : Hid (Bx3 w6 bb ((t : Int), (s : Int), cb)) := (hg6.block bb HBXX.out.lt (fun e => HPB.out e.symm)).trans HBXX.out; have HP6 := Lib.hid (HPX.out.append hown6 hg6 hat6 hlt6); clear z0 z1 z2 hown6 hg6 hat6; have y0 := HBX6.out.c0; have y1 := HBX6.out.c1; have y2 := HBX6.out.c2)
                obtain ⟨f7, hw7⟩ := HP6.out.ww
                refine (HCC.out _ _ f7 hw7 HP6.out.rs).mono ?_
                clear hw7
                rintro e w7 ⟨v6, f8, rfl, ⟨VB, vd, rfl, hs7, hne7⟩, hwa7, hg7⟩
                have HP7 := Lib.hid (HP6.out.mapped hg7 ⟨f8, hwa7⟩)
                have HTK := Lib.hid (take_ true st1.lf cl w2.heap.size N w.heap.size VB vd w7 HP7.out.lr hs7 (fun b o h0 hb e => (hne7 b o h0 hb).2 (e ▸ HP7.out.rl)) HOK1.out.lf HCI.out hcll hN384)
                clear hs7 hne7 hwa7 hg7 y0 y1 y2
                go_wp2_with fail
                refine HTK.out.mono ?_
                rintro e w8 ⟨rfl, hO8, hg8⟩
                have HP8 := Lib.hid (HP7.out.took hg8 hO8)
                rw [HK.out]
                clear hO8 hg8
                go_wp2_with fail
                go_roundw
                case rel => exact ⟨s + 1, _, _, _, by omega, by go_num, by rw [HN.out, List.length_append]; rfl, by rw [HN.out], Lib.hid (by rw [HN.out]; exact HP8.out)⟩
                case measure => simp [intOf]; omega
              · have HN : Hid (G (s + 1) = st1) := by show _ = _; rw [HS2.out, if_neg hpos]
                go_wp2_with fail
                go_roundw
                case rel => exact ⟨s + 1, _, _, _, by omega, by go_num, by rw [HN.out], by rw [HN.out], Lib.hid (by rw [HN.out]; exact HP.out)⟩
                case measure => simp [intOf]; omega
        · obtain rfl : s = L.length := by omega
          have HP1 : Hid (PlW R w.heap.size wb mb w2.heap.size N (some ⟨sb, so, none⟩) lc L n N w (F (t + 1)).lf PA pc (F (t + 1)).pl wr) := by
            rw [HFS.out, HST.out, ← HGE.out]
            exact HP
          go_wp2_with fail
          go_roundw
          case rel => exact ⟨t + 1, R, PA, pc, by omega, by go_num, by rw [HFS.out, HST.out, ← HGE.out], by rw [HFS.out, HST.out, ← HGE.out], HP1⟩
          case measure => simp [intOf]; omega
    · obtain rfl : t = m := by omega
      go_wp2_with fail
      go_ret3
      rw [show planF n N L st0 t = F t from (HF.out t).symm]
      exact ⟨PA, pc, rfl, Sl.of_own HP.out.pr, HP.out.bl⟩
end Go.Proofs.YtpphnnijnnfngaaGreatDoor

/-
  The walks of SameInts and sameLooks.
-/
namespace Go.Proofs.YtpphnnijnnfngaaGreatDoor
open Go.RowKit Al

def SiRel (l m : List Int) (i : Value) : Prop := ∃ k : Nat, k ≤ l.length ∧ i = .int .i64 k ∧ Hid (l.take k = m.take k)
theorem si_len {l m : List Int} (h : ¬ l.length = m.length) : (l == m) = false := by
  rw [beq_eq_false_iff_ne]; intro e; exact h (by rw [e])
theorem si_at {l m : List Int} {k : Nat} (h : k < l.length) (h' : k < m.length) (hne : ¬ l[k] = m[k]) : (l == m) = false := by
  rw [beq_eq_false_iff_ne]; intro e; subst e; exact hne rfl
theorem si_step {l m : List Int} {k : Nat} (h : k < l.length) (h' : k < m.length) (he : l[k] = m[k]) (hp : l.take k = m.take k) : l.take (k + 1) = m.take (k + 1) := by
  rw [List.take_succ_eq_append_getElem h, List.take_succ_eq_append_getElem h', hp, he]
theorem si_end {l m : List Int} (hl : l.length = m.length) (hp : l.take l.length = m.take l.length) : (l == m) = true := by
  rw [List.take_of_length_le (Nat.le_refl _), hl, List.take_of_length_le (Nat.le_refl _)] at hp
  rw [hp]; exact beq_self_eq_true m

set_option maxRecDepth 100000 in
set_option maxHeartbeats 1000000 in
theorem SameInts_ (l m : List Int) (A : Option Addr) (c : Nat) (D : Option Addr) (d : Nat) (w : World) (h : Sl w w.heap.size 1 A l.length c (ints l)) (h' : Sl w w.heap.size 1 D m.length d (ints m)) :
    Calls Tryz.prog 17 #[.slice A l.length c, .slice D m.length d] w fun e w' => e = .returned (.bool (l == m)) ∧ ∃ n, w' = w.drewN n := by
  have hl : l.length ≤ maxLen := Nat.le_trans h.cap h.max
  have hm : m.length ≤ maxLen := Nat.le_trans h'.cap h'.max
  unfold maxLen at hl hm
  by_cases hlen : l.length = m.length
  · have t1 : ((l.length : Int) != (m.length : Int)) = false := by simp [hlen]
    have HL := Lib.hid hlen
    have hlm : l.length ≤ m.length := by omega
    clear hlen
    go_enter Tryz.func17, Tryz.ntmps17
    go_wp2_with fail
    go_loopw [5] (fun i wr => SiRel l m i ∧ ∃ n, wr = w.drewN n) (fun i _ => l.length - (intOf i).toNat)
    case atStart => exact ⟨⟨0, Nat.zero_le _, rfl, by show _ = _; rw [List.take_zero, List.take_zero]⟩, 0, rfl⟩
    case round =>
      obtain ⟨⟨k, hk, rfl, hp⟩, n, rfl⟩ := hrel
      by_cases hlt : k < l.length
      · have hlt2 : k < m.length := by omega
        obtain ⟨b1, o1, rfl, hb1, hc1⟩ := h.int_at hlt hlt
        obtain ⟨b2, o2, rfl, hb2, hc2⟩ := h'.int_at hlt2 hlt2
        have i0 : (0 : Int) ≤ (k : Int) := by omega
        have i1 : (k : Int) < (l.length : Int) := by omega
        have i2 : (k : Int) < (m.length : Int) := by omega
        by_cases he : l[k] = m[k]
        · have t2 : (l[k] != m[k]) = false := by simp [he]
          have HX := Lib.hid (si_step hlt hlt2 he hp.out)
          clear he
          go_wp2_with fail
          go_quiet (fail)
          go_wp2_with fail
          go_roundw
          case rel => exact ⟨⟨k + 1, by omega, by go_num, HX.out⟩, _, rfl⟩
          case measure => simp [intOf]; omega
        · have t2 : (l[k] != m[k]) = true := by simp [he]
          have HX := Lib.hid (si_at hlt hlt2 he)
          clear he
          go_wp2_with fail
          go_quiet (fail)
          go_wp2_with fail
          go_ret
          exact ⟨ret_bool HX.out.symm, _, by rw [World.drewN_drewN]⟩
      · obtain rfl : k = l.length := by omega
        have HX := Lib.hid (si_end HL.out hp.out)
        go_wp2_with fail
        go_ret
        exact ⟨ret_bool HX.out.symm, n, rfl⟩
  · have t1 : ((l.length : Int) != (m.length : Int)) = true := by simp; omega
    have HX := Lib.hid (si_len hlen)
    clear hlen
    go_enter Tryz.func17, Tryz.ntmps17
    go_wp2_with fail
    go_ret
    exact ⟨ret_bool HX.out.symm, 0, rfl⟩
theorem SameInts_is (l m : List Int) (A : Option Addr) (c : Nat) (D : Option Addr) (d : Nat) (w : World) (b : Bool) (hb : (l == m) = b) (h : Sl w w.heap.size 1 A l.length c (ints l)) (h' : Sl w w.heap.size 1 D m.length d (ints m)) :
    Calls Tryz.prog 17 #[.slice A l.length c, .slice D m.length d] w fun e w' => e = .returned (.bool b) ∧ Below w.heap.size w w' :=
  (SameInts_ l m A c D d w h h').mono fun e w' ⟨he, n, hw⟩ => ⟨by rw [he, hb], by rw [hw]; exact below_drewN (Below.refl _ _) n⟩



theorem look_eq (a b c x y z : Int) (w : World) : (Op.equalIn 10000 62 (.agg #[.int .i64 a, .int .i64 b, .int .i64 c]) (.agg #[.int .i64 x, .int .i64 y, .int .i64 z])).run Tryz.prog w = .ok (a == x && (b == y && c == z)) w := by
  have ht : Tryz.prog.underlying 62 = some (.struct (Tryz.prog.fieldsOf 62)) := by kernel_rfl
  have hp : Tryz.prog.stoodInHeld 62 = false := by kernel_rfl
  have hpt : ∀ (i : Nat) (v : Value) (cs : Array Value), cs[i]? = some v → (part 3 cs i).run Tryz.prog w = .ok v w := by
    intro i v cs h
    unfold part
    have : (isAgg 3).run Tryz.prog w = .ok false w := by kernel_rfl
    simp only [Sem.run_bind, this, Result.andThen_ok, Bool.false_eq_true, if_false, h, Sem.run_pure]
  have hq : ∀ (p q : Int), (Op.equalIn 9999 3 (.int .i64 p) (.int .i64 q)).run Tryz.prog w = .ok (p == q) w := fun p q => run_equalIn_int w 9998 3 .i64 .i64 p q Tryz.underlying3
  rw [show 10000 = 9999 + 1 from rfl, run_equalIn_struct w 9999 _ _ _ ht hp]
  clear ht hp
  simp only [Program.fieldsOf, Tryz.underlying62]
  have p0 := hpt 0 _ #[.int .i64 a, .int .i64 b, .int .i64 c] rfl
  have p1 := hpt 1 _ #[.int .i64 a, .int .i64 b, .int .i64 c] rfl
  have p2 := hpt 2 _ #[.int .i64 a, .int .i64 b, .int .i64 c] rfl
  have q0 := hpt 0 _ #[.int .i64 x, .int .i64 y, .int .i64 z] rfl
  have q1 := hpt 1 _ #[.int .i64 x, .int .i64 y, .int .i64 z] rfl
  have q2 := hpt 2 _ #[.int .i64 x, .int .i64 y, .int .i64 z] rfl
  have h0 := hq a x
  have h1 := hq b y
  have h2 := hq c z
  clear hpt hq
  generalize (a == x) = e0 at h0 ⊢
  generalize (b == y) = e1 at h1 ⊢
  generalize (c == z) = e2 at h2 ⊢
  simp only [List.getElem_toArray, List.getElem_cons_zero, List.getElem_cons_succ] at p0 p1 p2 q0 q1 q2
  cases e0 <;> cases e1 <;> cases e2 <;> simp [Op.eqFields, h0, h1, h2, p0, p1, p2, q0, q1, q2, Result.andThen_ok, Sem.run_pure]
attribute [local go_sem ↓] look_eq
def SlRel (l m : List V3) (i : Value) : Prop := ∃ k : Nat, k ≤ l.length ∧ i = .int .i64 k ∧ Hid (l.take k = m.take k)
theorem sl_len {l m : List V3} (h : ¬ l.length = m.length) : (l == m) = false := by
  rw [beq_eq_false_iff_ne]; intro e; exact h (by rw [e])
theorem sl_at {l m : List V3} {k : Nat} (h : k < l.length) (h' : k < m.length) (hne : ¬ l[k] = m[k]) : (l == m) = false := by
  rw [beq_eq_false_iff_ne]; intro e; subst e; exact hne rfl
theorem sl_step {l m : List V3} {k : Nat} (h : k < l.length) (h' : k < m.length) (he : l[k] = m[k]) (hp : l.take k = m.take k) : l.take (k + 1) = m.take (k + 1) := by
  rw [List.take_succ_eq_append_getElem h, List.take_succ_eq_append_getElem h', hp, he]
theorem sl_end {l m : List V3} (hl : l.length = m.length) (hp : l.take l.length = m.take l.length) : (l == m) = true := by
  rw [List.take_of_length_le (Nat.le_refl _), hl, List.take_of_length_le (Nat.le_refl _)] at hp
  rw [hp]; exact beq_self_eq_true m
set_option maxRecDepth 100000 in
set_option maxHeartbeats 2000000 in
theorem sameLooks_ (l m : List V3) (A : Option Addr) (c : Nat) (D : Option Addr) (d : Nat) (w : World) (h : Sl w w.heap.size 3 A l.length c (zsC l)) (h' : Sl w w.heap.size 3 D m.length d (zsC m)) :
    Calls Tryz.prog 18 #[.slice A l.length c, .slice D m.length d] w fun e w' => e = .returned (.bool (l == m)) ∧ ∃ n, w' = w.drewN n := by
  have hl : l.length ≤ maxLen := Nat.le_trans h.cap h.max
  have hm : m.length ≤ maxLen := Nat.le_trans h'.cap h'.max
  unfold maxLen at hl hm
  by_cases hlen : l.length = m.length
  · have t1 : ((l.length : Int) != (m.length : Int)) = false := by simp [hlen]
    have HL := Lib.hid hlen
    have hlm : l.length ≤ m.length := by omega
    clear hlen
    go_enter Tryz.func18, Tryz.ntmps18
    go_wp2_with fail
    go_loopw [5] (fun i wr => SlRel l m i ∧ ∃ n, wr = w.drewN n) (fun i _ => l.length - (intOf i).toNat)
    case atStart => exact ⟨⟨0, Nat.zero_le _, rfl, by show _ = _; rw [List.take_zero, List.take_zero]⟩, 0, rfl⟩
    case round =>
      obtain ⟨⟨k, hk, rfl, hp⟩, n, rfl⟩ := hrel
      by_cases hlt : k < l.length
      · have hlt2 : k < m.length := by omega
        obtain ⟨b1, o1, rfl, hb1, hc1, hc2, hc3⟩ := h.z_at hlt
        obtain ⟨b2, o2, rfl, hb2, hd1, hd2, hd3⟩ := h'.z_at hlt2
        have i0 : (0 : Int) ≤ (k : Int) := by omega
        have i1 : (k : Int) < (l.length : Int) := by omega
        have i2 : (k : Int) < (m.length : Int) := by omega
        obtain ⟨n9, hn9⟩ : ∃ b, (l[k].1 == m[k].1 && (l[k].2.1 == m[k].2.1 && l[k].2.2 == m[k].2.2)) = b := ⟨_, rfl⟩
        by_cases he : l[k] = m[k]
        · have HX := Lib.hid (sl_step hlt hlt2 he hp.out)
          obtain rfl : n9 = true := by rw [← hn9, he]; simp
          clear he
          go_wp2_with fail
          go_quiet (fail)
          go_wp2_with fail
          go_roundw
          case rel => exact ⟨⟨k + 1, by omega, by go_num, HX.out⟩, _, rfl⟩
          case measure => simp [intOf]; omega
        · have HX := Lib.hid (sl_at hlt hlt2 he)
          obtain rfl : n9 = false := by
            cases n9 with
            | false => rfl
            | true =>
              simp only [Bool.and_eq_true, beq_iff_eq] at hn9
              exact absurd (Prod.ext hn9.1 (Prod.ext hn9.2.1 hn9.2.2)) he
          clear he
          go_wp2_with fail
          go_quiet (fail)
          go_wp2_with fail
          go_ret
          exact ⟨ret_bool HX.out.symm, _, by rw [World.drewN_drewN]⟩
      · obtain rfl : k = l.length := by omega
        have HX := Lib.hid (sl_end HL.out hp.out)
        go_wp2_with fail
        go_ret
        exact ⟨ret_bool HX.out.symm, n, rfl⟩
  · have t1 : ((l.length : Int) != (m.length : Int)) = true := by simp; omega
    have HX := Lib.hid (sl_len hlen)
    clear hlen
    go_enter Tryz.func18, Tryz.ntmps18
    go_wp2_with fail
    go_ret
    exact ⟨ret_bool HX.out.symm, 0, rfl⟩
end Go.Proofs.YtpphnnijnnfngaaGreatDoor
