/-
  The walk of the law SkyAllRings.
-/
import Derived.Test.YtcclfhdglhbpcaaGreatDoorW35
import Derived.Test.YtcclfhdglhbpcaaGreatDoorW37
namespace Go.Proofs.YtcclfhdglhbpcaaGreatDoor
open Go.RowKit Al Ring9

theorem pairsN_len {i j : Nat} (hi : i ≤ 6) (hj : j ≤ i) : (pairsN i j).length ≤ 42 := by
  have h := pairsL_len i
  have h2 : i * i ≤ 36 := Nat.mul_le_mul hi hi
  unfold pairsN
  simp only [List.length_append, List.length_map, List.length_range]
  omega
theorem fitG_get {L : List NSi} {n : Int} {t : List Trg} (h : fitG L n t = 0) : netG L n = 0 ∧ arrB L.length t = true := by
  unfold fitG at h
  by_cases hg : netG L n = 0
  · rw [if_pos (by simpa using hg)] at h
    refine ⟨hg, ?_⟩
    cases ha : arrB L.length t with
    | true => rfl
    | false => rw [ha] at h; cases h
  · rw [if_neg (by simpa using hg)] at h
    exact absurd h hg
theorem manyJ_len (S : List Site) (t : List Trg) (n : Int) (N : Nat) (P : List (Nat × Nat)) (r : List Int) : (manyJ S t n N P r).length = N := by simp [manyJ]
theorem manyJ_in {S : List Site} {t : List Trg} {n : Int} {N : Nat} {P : List (Nat × Nat)} {r : List Int} {c : Nat} (h : c < (manyJ S t n N P r).length) : 0 ≤ (manyJ S t n N P r)[c] ∧ (manyJ S t n N P r)[c] ≤ (P.length : Int) + 1 := by
  simp only [manyJ, List.getElem_map, List.getElem_range]
  have h2 : onPairs S t (dirV n (c : Int)) P ≤ P.length := List.countP_le_length
  split
  · omega
  · omega
theorem manyF_len (S : List Site) (t : List Trg) (n : Int) (N : Nat) (P : List (Nat × Nat)) : (manyF S t n N P).length = N := by simp [manyF]
theorem manyF_at {S : List Site} {t : List Trg} {n : Int} {N : Nat} {P : List (Nat × Nat)} {c : Nat} (h : c < (manyF S t n N P).length) : (manyF S t n N P)[c] = ((onPairs S t (dirV n c) P : Nat) : Int) := by
  simp only [manyF, List.getElem_map, List.getElem_range]
/-- A network in a box. -/
def BxN (W : World) (b : Nat) (lv nv : Value) : Prop := ∃ cv, W.heap[b]? = some (.cells #[lv, nv, cv] 24 (0, 0))
section
variable {W W' : World} {b : Nat} {lv nv : Value}
theorem BxN.lt (h : BxN W b lv nv) : b < W.heap.size := let ⟨_, e⟩ := h; (Array.getElem?_eq_some_iff.1 e).1
theorem BxN.c0 (h : BxN W b lv nv) : W.cell? ⟨b, 0, none⟩ = some lv := by obtain ⟨_, e⟩ := h; simp [World.cell?, e]
theorem BxN.c1 (h : BxN W b lv nv) : W.cell? ⟨b, 1, none⟩ = some nv := by obtain ⟨_, e⟩ := h; simp [World.cell?, e]
theorem BxN.below (h : BxN W b lv nv) (g : Below W.heap.size W W') : BxN W' b lv nv := let ⟨c, e⟩ := h; ⟨c, (g.block b (BxN.lt ⟨c, e⟩)).trans e⟩
theorem BxN.grown {g : Nat} (h : BxN W b lv nv) (hg : W.grownBy W' (some g)) (hne : b ≠ g) : BxN W' b lv nv := let ⟨c, e⟩ := h; ⟨c, (hg.block b (BxN.lt ⟨c, e⟩) (fun e => hne (Option.some.inj e))).trans e⟩
end
/-- The counts in memory. -/
def ArW (base mb N : Nat) (W0 : World) (M : List Int) (wr : World) : Prop := Hid (wr.ownsRow base 3 1 (.slice (some ⟨mb, 0, none⟩) N N) N (ints M)) ∧ Hid (W0.grownBy wr (some mb))
def AoRel (G : List (Nat × Nat) → List Int) (m base mb N : Nat) (W0 : World) (p i : Value) (wr : World) : Prop := ∃ k : Nat, k ≤ m ∧ i = .int .i64 (k : Int) ∧ p = .int .i64 ((pairsL k).length : Int) ∧ ArW base mb N W0 (G (pairsL k)) wr
def AmRel (G : List (Nat × Nat) → List Int) (i base mb N : Nat) (W0 : World) (p j : Value) (wr : World) : Prop := ∃ k : Nat, k ≤ i ∧ j = .int .i64 (k : Int) ∧ p = .int .i64 ((pairsN i k).length : Int) ∧ ArW base mb N W0 (G (pairsN i k)) wr
def AiRel (J : List Int → List Int) (R : List Int) (base mb N : Nat) (W0 W5 : World) (q : Value) (wr : World) : Prop := ∃ k : Nat, k ≤ R.length ∧ q = .int .i64 (k : Int) ∧ ArW base mb N W0 (J (R.take k)) wr ∧ Hid (W5.grownBy wr (some mb))
def AeRel (N : Nat) (W : World) (c : Value) (wr : World) : Prop := ∃ k : Nat, k ≤ N ∧ c = .int .i64 (k : Int) ∧ Hid (Below W.heap.size W wr)
set_option maxRecDepth 100000 in
set_option maxHeartbeats 16000000 in
theorem skyAll_ (L : List NSi) (LA TA : Option Addr) (lc tc : Nat) (n cl : Int) (t : List Trg) (w : World) (hM : MxL w) (hL : Sl w w.heap.size 10 LA L.length lc (nsCells L)) (hm : ∀ x ∈ L, x.nm.size ≤ maxLen)
    (hT : Sl w w.heap.size 3 TA t.length tc (trCells t)) :
    Calls Tryz.prog 7 #[.agg #[.slice LA L.length lc, .int .i64 n, .int .i64 cl], .slice TA t.length tc] w fun e w' => e = .returned (.bool true) ∧ Below w.heap.size w w' := by
  obtain ⟨i0, hi, hz0, hz1, hz2⟩ := info_parts cInfo
  have HM := Lib.hid hM
  have HL := Lib.hid hL
  have HN := Lib.hid hm
  have HT := Lib.hid hT
  obtain ⟨N, hN⟩ : ∃ N : Nat, (N : Int) = 6 * (n * n) := ⟨(6 * (n * n)).toNat, by have := sq_nn n; omega⟩
  have HFI := Lib.hid (fun W (hW : Below w.heap.size w W) => fits_ L LA TA lc tc n t W ((hL.below hW).more hW.size) hm ((hT.below hW).more hW.size) N hN)
  have HRI := Lib.hid (fun W (hW : Below w.heap.size w W) a b df sl => Ring_ L LA lc n a b df sl W ((hL.below hW).more hW.size) hm N hN)
  obtain ⟨v, hv⟩ : ∃ v, fitG L n t = v := ⟨_, rfl⟩
  obtain ⟨ALL, hALL⟩ : ∃ l, fitL L n t N = l := ⟨_, rfl⟩
  have HV := Lib.hid hv
  have HAE := Lib.hid hALL
  have HNN := Lib.hid hN
  rw [hv, hALL] at HFI
  clear hM hL hm hT hv hALL hN
  go_enter Tryz.func7, Tryz.ntmps7
  go_wp2_with fail
  have HX : Hid (BxN (w.alloc (.cells #[.slice LA L.length lc, .int .i64 n, .int .i64 cl] 24)) w.heap.size (.slice LA L.length lc) (.int .i64 n)) := ⟨_, heap_alloc_new w _⟩
  have HBW : Hid (Below w.heap.size w (w.alloc (.cells #[.slice LA L.length lc, .int .i64 n, .int .i64 cl] 24))) := (Below.refl _ _).alloc (Nat.le_refl _) _
  obtain ⟨wb, hwb⟩ : ∃ wb, w.alloc (.cells #[.slice LA L.length lc, .int .i64 n, .int .i64 cl] 24) = wb := ⟨_, rfl⟩
  rw [hwb] at HX HBW ⊢
  have hvl : w.heap.size ≤ wb.heap.size := HBW.out.size
  obtain ⟨vb, hvb⟩ : ∃ b, w.heap.size = b := ⟨_, rfl⟩
  rw [hvb] at HX ⊢
  clear hwb hvb
  refine (HFI.out wb HBW.out).mono ?_
  rintro e w1 ⟨s1, rfl, ho, hb⟩
  obtain ⟨AA, ac, rfl⟩ := own_form ho
  have HO1 := Lib.hid ho
  have HB1 := Lib.hid (HBW.out.trans (hb.mono hvl))
  have HX1 := Lib.hid (HX.out.below hb)
  have hz1b := hb.size
  clear ho hb HFI
  have x0 := HX1.out.c0
  have x1 := HX1.out.c1
  have xl := HX1.out.lt
  by_cases h0 : v = 0
  · subst h0
    obtain ⟨hng, harr⟩ := fitG_get HV.out
    obtain ⟨l2, l6, n1, n8⟩ := netG_ok hng
    obtain ⟨k1, k2, k3⟩ := six_in n1 n8
    have ht6 := arr_few harr
    have hN6 : 6 ≤ N ∧ N ≤ 384 := by have := HNN.out; omega
    obtain ⟨hN0, hN1⟩ := hN6
    have HC : Hid (∀ W, Calls Tryz.prog 22 #[.int .i64 n] W fun e w' => e = .returned (.tuple #[.int .i64 (N : Int), .int .i64 0]) ∧ W = w') := fun W => by
      have h := Cells_ n W
      rw [inB_true.2 ⟨n1, n8⟩] at h
      rw [HNN.out]
      exact h
    have HAL : Hid (ALL = pickL (fitB (sites L) t) (cellsL n N)) := by show _ = _; rw [← HAE.out]; exact fitL_ok HV.out
    have HNG := Lib.hid hng
    have HAR := Lib.hid harr
    obtain ⟨G, hG⟩ : ∃ G, manyF (sites L) t n N = G := ⟨_, rfl⟩
    have HG := Lib.hid hG
    have ht7 : t.length ≤ 6 := by omega
    have h2N : (0 : Int) ≤ (N : Int) := by omega
    have h3N : (N : Int) ≤ 384 := by omega
    clear hng harr hG k1 k2 k3
    go_wp2_with (first
      | (go_at_call 22; refine (HC.out _).mono ?_; rintro e w' ⟨rfl, rfl⟩)
      | (at_make; refine wpList_make_full _ rfl _ _ 27 rfl w1.heap.size 3 i0 (.int .i64 0) 1 Tryz.underlying27 hi hz0 hz1 _ _ _ _ N rfl rfl (by omega) (by omega) (by rw [hz2]; omega) (by unfold maxLen; omega) (Nat.le_refl _) ?_; intro w2 hown2 hg2))
    rw [ints_rep] at hown2
    have HO2 : Hid (w2.ownsRow w1.heap.size 3 1 (.slice (some ⟨w1.heap.size, 0, none⟩) N N) N (ints (G (pairsL 0)))) := by
      show World.ownsRow _ _ _ _ _ _ _
      rw [← HG.out, show pairsL 0 = [] from rfl, manyF_nil]
      exact hown2
    have HB2 : Hid (Below w.heap.size w w2) := HB1.out.grown hg2 HB1.out.size (fun g h => by cases h)
    have HX2 := Lib.hid (HX1.out.below (below_of_grown hg2))
    have HOA2 := Lib.hid (own_below HO1.out (Nat.le_refl _) (below_of_grown hg2))
    have hz2' := hg2.size
    have hm2 : w1.heap.size < w2.heap.size := (own_lt HO2.out rfl).2
    obtain ⟨mb, hmb⟩ : ∃ b, w1.heap.size = b := ⟨_, rfl⟩
    rw [hmb] at HO2 hm2 xl hz1b ⊢
    have hwm : w.heap.size ≤ mb := by rw [← hmb]; exact HB1.out.size
    have hw2 : w.heap.size ≤ w2.heap.size := by omega
    have hm1 : w1.heap.size ≤ mb := by omega
    clear hown2 hg2 hmb x0 x1
    go_loopw [9, 10] (fun p i wr => AoRel G t.length mb mb N w2 p i wr) (fun _ i _ => t.length - (intOf i).toNat)
    case atStart => exact ⟨0, Nat.zero_le _, rfl, rfl, HO2, World.grownBy.refl _ _⟩
    case round =>
      obtain ⟨k, hk, rfl, rfl, HO, HGR⟩ := hrel
      have hszr := HGR.out.size
      by_cases hlt : k < t.length
      · have hlt' : (k : Int) < (t.length : Int) := by omega
        have HO0 : Hid (wr.ownsRow mb 3 1 (.slice (some ⟨mb, 0, none⟩) N N) N (ints (G (pairsN k 0)))) := by show World.ownsRow _ _ _ _ _ _ _; rw [pairsN_zero]; exact HO.out
        have hpz : (pairsN k 0).length = (pairsL k).length := by rw [pairsN_zero]
        go_wp2_with fail
        go_loopw [9, 11] (fun p j wr => AmRel G k mb mb N w2 p j wr) (fun _ j _ => k - (intOf j).toNat)
        case atStart => exact ⟨0, Nat.zero_le _, rfl, by rw [hpz], HO0, HGR⟩
        case round =>
          rename_i wr0 _ _ _
          obtain ⟨j, hj, rfl, rfl, HO', HGR'⟩ := hrel
          have hszr' := HGR'.out.size
          by_cases hjk : j < k
          · have HBr := Lib.hid (HB2.out.grown HGR'.out hw2 (fun z e => by cases e; exact hwm))
            have HXr := Lib.hid (HX2.out.grown HGR'.out (show vb ≠ mb by omega))
            obtain ⟨tb, tof, rfl, htb, c0, c1, c2⟩ := (HT.out.below HBr.out).tr_at hlt
            obtain ⟨tb', tof', hA, htb', d0, d1, d2⟩ := (HT.out.below HBr.out).tr_at (k := j) (by omega)
            cases hA
            have hpr := pair_ring HAR.out hlt hjk
            have oka := (arr_parts HAR.out).2.1 _ (List.getElem_mem hlt)
            have okb := (arr_parts HAR.out).2.1 _ (List.getElem_mem (show j < t.length by omega))
            have hfar := fun hf => far_none (N := N) HNN.out HNG.out HAR.out hlt hjk hf
            have hgk : t.getD k (0, 0, 0) = t[k] := by simp [hlt]
            have hgj : t.getD j (0, 0, 0) = t[j] := by simp [show j < t.length by omega]
            obtain ⟨v5, hv5⟩ : ∃ v, rgG L n t[j].1 t[k].1 (t[k].2.1 - t[j].2.1) (t[k].2.2 + t[j].2.2) = v := ⟨_, rfl⟩
            obtain ⟨R, hR⟩ : ∃ l, rgL L n t[j].1 t[k].1 (t[k].2.1 - t[j].2.1) (t[k].2.2 + t[j].2.2) N = l := ⟨_, rfl⟩
            have HVR : Hid ((v5 = 92 ∧ ALL = []) ∨ (v5 = 0 ∧ R = pickL (fun d => pairB (sites L) d (t.getD k (0, 0, 0)) (t.getD j (0, 0, 0))) (cellsL n N))) := by
              show _ ∨ _
              have hg : rgG L n t[j].1 t[k].1 (t[k].2.1 - t[j].2.1) (t[k].2.2 + t[j].2.2) = if rgOk L.length t[j].1 t[k].1 (t[k].2.1 - t[j].2.1) (t[k].2.2 + t[j].2.2) then 0 else 92 := by unfold rgG; rw [if_pos (by simpa using HNG.out)]
              rw [hpr] at hg
              cases hin : inB (t[k].2.1 - t[j].2.1) (-1099511627776) 1099511627776 with
              | false =>
                rw [hin] at hg
                exact .inl ⟨by rw [← hv5, hg]; rfl, by rw [HAL.out]; exact hfar hin⟩
              | true =>
                rw [hin] at hg
                refine .inr ⟨by rw [← hv5, hg]; rfl, ?_⟩
                rw [← hR]
                unfold rgL
                rw [if_pos (by rw [hg]; rfl), hgk, hgj]
                rfl
            have HRG := Lib.hid (fun W hW => HRI.out W hW t[j].1 t[k].1 (t[k].2.1 - t[j].2.1) (t[k].2.2 + t[j].2.2))
            rw [hv5, hR] at HRG
            have hsv : ∀ x ∈ R, 0 ≤ x ∧ x < (N : Int) := by
              intro x hx
              rcases HVR.out with ⟨h1, _⟩ | ⟨_, h1⟩
              · rw [← hR] at hx
                unfold rgL at hx
                rw [if_neg (by rw [hv5, h1]; decide)] at hx
                cases hx
              · rw [h1] at hx
                have := pick_mem.1 hx
                exact ⟨this.1, this.2.1⟩
            have HSV := Lib.hid hsv
            have a4 := oka.t0
            have a5 := oka.t1
            have a6 := oka.k0
            have a7 := oka.k1
            have b4 := okb.t0
            have b5 := okb.t1
            have b6 := okb.k0
            have b7 := okb.k1
            obtain ⟨a1, a2, a3, ha⟩ : ∃ a b c, t[k] = (a, b, c) := ⟨_, _, _, rfl⟩
            obtain ⟨b1, b2, b3, hb'⟩ : ∃ a b c, t[j]'(by omega) = (a, b, c) := ⟨_, _, _, rfl⟩
            rw [ha] at c0 c1 c2 HRG a4 a5 a6 a7
            rw [hb'] at d0 d1 d2 HRG b4 b5 b6 b7
            simp only at c0 c1 c2 d0 d1 d2 HRG a4 a5 a6 a7 b4 b5 b6 b7
            clear hpr oka okb hfar hgk hgj hv5 hR hsv ha hb'
            have x0 := HXr.out.c0
            have x1 := HXr.out.c1
            have xr := HXr.out.lt
            have htb2 : tb < wr.heap.size := by have := HBr.out.size; omega
            have j0 : (0 : Int) ≤ (j : Int) := by omega
            have j1 : (j : Int) < (t.length : Int) := by omega
            have j2 : (j : Int) < (k : Int) := by omega
            have k0 : (0 : Int) ≤ (k : Int) := by omega
            have u1 : IntKind.i64.wrap (a2 - b2) = a2 - b2 := IntWalk.i64_in _ (by omega)
            have u2 : IntKind.i64.wrap (a3 + b3) = a3 + b3 := IntWalk.i64_in _ (by omega)
            go_wp2_with fail
            have DC : Below wr.heap.size wr wr := Below.refl _ _
            go_region_held3 (fun w' => ∀ b o, b < wr.heap.size → w'.cell? ⟨b, o, none⟩ = wr.cell? ⟨b, o, none⟩) (first | exact kN | exact fun b o h => rfl)
              (first
              | (go_at_call 12; refine (HRG.out _ (HBr.out.trans (Below.mono (Below.trans DC (by (repeat (first | exact Below.refl _ _ | assumption | refine below_drewN ?_ _ | refine Below.drew ?_ | refine Below.setCell ?_ (by first | omega | (simp; done) | (simp; omega)) _ | refine Below.alloc ?_ (by first | omega | (simp; done) | (simp; omega)) _)))) HBr.out.size))).mono ?_; rintro e wn ⟨s5, rfl, ho, hbn⟩; obtain ⟨RA, rc, rfl⟩ := own_form ho; have HR5 := Lib.hid ho; have sC := hbn.size; (try simp at sC); have DC := Below.trans DC (Below.trans (show Below wr.heap.size _ _ from (by (repeat (first | exact Below.refl _ _ | assumption | refine below_drewN ?_ _ | refine Below.drew ?_ | refine Below.setCell ?_ (by first | omega | (simp; done) | (simp; omega)) _ | refine Below.alloc ?_ (by first | omega | (simp; done) | (simp; omega)) _)))) (hbn.mono (by first | omega | (simp; done) | (simp; omega)))); have kN := (fun b o (h : b < wr.heap.size) => DC.cell (p := ⟨b, o, none⟩) h); clear hbn; clear ho))
            have hmr : mb < wr.heap.size := by omega
            have HR5 : Hid (wn.ownsRow wr.heap.size 3 1 (.slice RA R.length rc) R.length (ints R)) := own_le HR5.out (by simp)
            obtain ⟨w5, hw5⟩ : ∃ w5, w5 = wn := ⟨_, rfl⟩
            rw [← hw5] at DC HR5 ⊢
            have HO5 := Lib.hid (own_below HO'.out (Nat.le_refl _) DC)
            have HG5 := Lib.hid (HGR'.out.trans (grown_bel DC mb))
            have HB5 := Lib.hid (HBr.out.trans (DC.mono HBr.out.size))
            obtain ⟨bs, hbs⟩ : ∃ b, wr.heap.size = b := ⟨_, rfl⟩
            rw [hbs] at HR5 hmr
            clear hbs hw5 kN DC x0 x1 xr c0 c1 c2 d0 d1 d2 u1 u2 HRG a4 a5 a6 a7 b4 b5 b6 b7 HXr HO' HGR' hszr'
            rcases HVR.out with ⟨h5, hall⟩ | ⟨h5, hR⟩
            · have HAN := Lib.hid hall
              subst h5 hall
              clear HVR
              go_wp2_with fail
              refine (works_ _ (HM.out.below HB5.out (Nat.le_refl _))).mono ?_
              rintro e w9 ⟨rfl, hb⟩
              have HB9 := Lib.hid (Below.tr HB5.out hb)
              clear hb
              go_wp2_with fail
              go_ret
              exact ⟨rfl, HB9.out⟩
            · have HRE := Lib.hid hR
              subst h5
              clear HVR hR
              have hpn := pairsN_len (show k ≤ 6 by omega) (show j ≤ k by omega)
              have hp1 : (pairsN k (j + 1)).length = (pairsN k j).length + 1 := by rw [pairsN_succ, List.length_append]; rfl
              have HP1 := Lib.hid hp1
              obtain ⟨P, hP⟩ : ∃ P, pairsN k j = P := ⟨_, rfl⟩
              have HPE := Lib.hid hP
              rw [hP] at hpn HP1 HO5 ⊢
              obtain ⟨pn, hpl⟩ : ∃ p, P.length = p := ⟨_, rfl⟩
              have HPL := Lib.hid hpl
              rw [hpl] at hpn HP1 ⊢
              have hRm : R.length ≤ maxLen := Nat.le_trans (Sl.of_own HR5.out).cap (Sl.of_own HR5.out).max
              unfold maxLen at hRm
              have h25 := HG5.out.size
              clear hp1 hP hpl
              go_wp2_with fail
              go_loopw [14] (fun q wr => AiRel (manyJ (sites L) t n N P) R mb mb N w2 w5 q wr) (fun q _ => R.length - (intOf q).toNat)
              case atStart => exact ⟨0, Nat.zero_le _, rfl, ⟨Lib.hid (by rw [List.take_zero, manyJ_nil, HG.out]; exact HO5.out), HG5⟩, World.grownBy.refl _ _⟩
              case round =>
                obtain ⟨q, hq, rfl, ⟨HOq, HGq⟩, HG6⟩ := hrel
                have hszq := HG6.out.size
                by_cases hqR : q < R.length
                · have HRq := Lib.hid (HR5.out.kept HG6.out (.inr (fun e => by have := (own_lt HR5.out e).1; omega)))
                  obtain ⟨rb, rof, rfl, hrb, e0⟩ := (Sl.of_own HRq.out).int_at hqR hqR
                  have hnd : R.Nodup := by rw [HRE.out]; exact pick_nodup _ _ _
                  have hin := HSV.out _ (List.getElem_mem hqR)
                  have hnt : R[q] ∉ R.take q := fun h => by
                    obtain ⟨i, hi, he⟩ := List.mem_take_iff_getElem.1 h
                    have := (List.getElem_inj hnd).1 he
                    omega
                  have htk : R.take (q + 1) = R.take q ++ [R[q]] := List.take_succ_eq_append_getElem hqR
                  obtain ⟨c, hc⟩ : ∃ c, R[q] = c := ⟨_, rfl⟩
                  rw [hc] at hin e0 hnt htk
                  obtain ⟨cn, rfl⟩ : ∃ m : Nat, c = (m : Int) := ⟨c.toNat, by omega⟩
                  have hcn : cn < N := by omega
                  have hsn := manyJ_snoc (sites L) t n N P (R.take q) hcn hnt
                  rw [← htk] at hsn
                  have hMl := manyJ_len (sites L) t n N P (R.take q)
                  have hmi := manyJ_in (S := sites L) (t := t) (n := n) (N := N) (P := P) (r := R.take q) (c := cn) (by rw [hMl]; exact hcn)
                  rw [HPL.out] at hmi
                  obtain ⟨M, hM⟩ : ∃ M, manyJ (sites L) t n N P (R.take q) = M := ⟨_, rfl⟩
                  have r1 := HOq.out.frozenAt cn
                  have r0 := HOq.out.cellAt cn (by omega)
                  simp only [hM] at hsn hMl hmi r0
                  have HOM : Hid (wr.ownsRow mb 3 1 (.slice (some ⟨mb, 0, none⟩) N N) N (ints M)) := by rw [← hM]; exact HOq
                  rw [ints_at (by omega)] at r0
                  rw [show M.getD cn 0 = M[cn]'(by omega) by simp [show cn < M.length by omega]] at hsn
                  obtain ⟨mv, hmv⟩ : ∃ x, M[cn]'(by omega) = x := ⟨_, rfl⟩
                  rw [hmv] at hsn hmi r0
                  have HSN : Hid ((ints M).set cn (.int .i64 (mv + 1)) = ints (manyJ (sites L) t n N P (R.take (q + 1)))) := by show _ = _; rw [ints_set, hsn]
                  have hqR' : (q : Int) < (R.length : Int) := by omega
                  have q0 : (0 : Int) ≤ (q : Int) := by omega
                  have hcn' : (cn : Int) < (N : Int) := by omega
                  have cn0 : (0 : Int) ≤ (cn : Int) := by omega
                  have hmw : mb < wr.heap.size := by omega
                  obtain ⟨m0, m1⟩ := hmi
                  clear hnd hin hnt htk hc hsn hM hmv HOq
                  go_wp2_with fail
                  have h1 := HOM.out.stored cn (.int .i64 (mv + 1))
                  rw [HSN.out] at h1
                  have HS1 := Lib.hid h1.1
                  have HS2 := Lib.hid h1.2
                  clear h1
                  go_roundw
                  case rel => exact ⟨q + 1, by omega, by go_num, ⟨HS1, Lib.hid (HGq.out.trans HS2.out)⟩, Lib.hid (HG6.out.trans HS2.out)⟩
                  case measure => simp [intOf]; omega
                · obtain rfl : q = R.length := by omega
                  have HOE : Hid (wr.ownsRow mb 3 1 (.slice (some ⟨mb, 0, none⟩) N N) N (ints (G (pairsN k (j + 1))))) := by
                    show World.ownsRow _ _ _ _ _ _ _
                    have h := HOq.out
                    rw [List.take_length] at h
                    rw [pairsN_succ, HPE.out, ← HG.out, ← manyJ_end, ← HRE.out]
                    exact h
                  clear HOq
                  go_wp2_with fail
                  go_roundw
                  case rel => exact ⟨j + 1, by omega, by go_num, by rw [HP1.out]; rfl, HOE, HGq⟩
                  case measure => simp [intOf]; omega
          · obtain rfl : j = k := by omega
            have HOK : Hid (wr.ownsRow mb 3 1 (.slice (some ⟨mb, 0, none⟩) N N) N (ints (G (pairsL (j + 1))))) := by show World.ownsRow _ _ _ _ _ _ _; rw [← pairsL_succ]; exact HO'.out
            go_wp2_with fail
            go_roundw
            case rel => exact ⟨j + 1, by omega, by go_num, by rw [← pairsL_succ], HOK, HGR'⟩
            case measure => simp [intOf]; omega
      · obtain rfl : k = t.length := by omega
        have HB7 := Lib.hid (HB2.out.grown HGR.out hw2 (fun z e => by cases e; exact hwm))
        have HA7 := Lib.hid (HOA2.out.kept HGR.out (.inr (fun e => by have := own_lt HO1.out e; omega)))
        obtain ⟨w7, hw7⟩ : ∃ w7, wr = w7 := ⟨_, rfl⟩
        rw [hw7] at HB7 HA7 HO ⊢
        have hmw7 : mb < w7.heap.size := by rw [← hw7]; omega
        have hw07 : w.heap.size ≤ w7.heap.size := HB7.out.size
        have hplt := pairsN_len (show t.length ≤ 6 by omega) (show 0 ≤ t.length by omega)
        rw [pairsN_zero] at hplt
        obtain ⟨pn, hpn⟩ : ∃ p, (pairsL t.length).length = p := ⟨_, rfl⟩
        have HPN := Lib.hid hpn
        rw [hpn] at hplt ⊢
        clear hw7 HGR hszr hpn
        go_wp2_with fail
        go_loopw [15] (fun c wr => AeRel N w7 c wr) (fun c _ => N - (intOf c).toNat)
        case atStart => exact ⟨0, Nat.zero_le _, rfl, Below.refl _ _⟩
        case round =>
          obtain ⟨c, hc, rfl, HB⟩ := hrel
          have hsz := HB.out.size
          by_cases hcN : c < N
          · have HOc := Lib.hid (own_below HO.out (Nat.le_refl _) HB.out)
            have HAc := Lib.hid (own_below HA7.out (Nat.le_refl _) HB.out)
            have hfl := manyF_len (sites L) t n N (pairsL t.length)
            have r0 := HOc.out.cellAt c (by omega)
            rw [ints_at (by rw [← HG.out, hfl]; exact hcN)] at r0
            have hga : ∀ h, (G (pairsL t.length))[c]'h = ((onPairs (sites L) t (dirV n (c : Int)) (pairsL t.length) : Nat) : Int) := fun h => by
              have h2 := manyF_at (S := sites L) (t := t) (n := n) (N := N) (P := pairsL t.length) (c := c) (by rw [hfl]; exact hcN)
              simp only [HG.out] at h2
              exact h2
            rw [hga] at r0
            have hoa := onPairs_all (sites L) t (dirV n (c : Int))
            rw [HPN.out] at hoa
            have hmem : (c : Int) ∈ ALL ↔ fitB (sites L) t (dirV n (c : Int)) = true := by
              rw [HAL.out, pick_mem]
              exact ⟨fun h => h.2.2, fun h => ⟨by omega, by omega, h⟩⟩
            obtain ⟨op, hop⟩ : ∃ o, onPairs (sites L) t (dirV n (c : Int)) (pairsL t.length) = o := ⟨_, rfl⟩
            rw [hop] at r0 hoa
            obtain ⟨fi, hfi⟩ : ∃ f, findI ALL (c : Int) = f := ⟨_, rfl⟩
            have hfn : fi < 0 ↔ (c : Int) ∉ ALL := by rw [← hfi]; exact findI_no
            have HFD := Lib.hid (fun z : BW wr => Find_ ALL (c : Int) AA ac z.w ((Sl.of_own HAc.out).bT z.below))
            rw [hfi] at HFD
            have hcN' : (c : Int) < (N : Int) := by omega
            have c0 : (0 : Int) ≤ (c : Int) := by omega
            have hmw : mb < wr.heap.size := by omega
            by_cases hin : (c : Int) ∈ ALL
            · have e1 : ((op : Int) == (pn : Int)) = true := by rw [beq_iff_eq]; have := hoa.2 (hmem.1 hin); omega
              have e2 : 0 ≤ fi := by rcases Int.lt_or_le fi 0 with h | h; exact absurd hin (hfn.1 h); exact h
              clear hoa hmem hop hfi hfn hin hfl hga
              go_wp2_with fail
              refine wp_region_bw2 (by kernel_rfl) (by kernel_rfl) (fun hbwc => ?_)
              repeat (go_big_quiet_step ((with_reducible exact bwSame (HFD.out _))))
              refine wpQuiet_nil ?_
              clear hbwc
              intro w8 hb
              have HB8 := Lib.hid (HB.out.trans (((show Below wr.heap.size wr _ from (by repeat (first | exact Below.refl _ _ | assumption | refine below_drewN ?_ _ | refine Below.drew ?_ | refine Below.setCell ?_ (by first | omega | (simp; done) | (simp; omega)) _ | refine Below.alloc ?_ (by first | omega | (simp; done) | (simp; omega)) _))).trans (hb.mono (by first | omega | (simp; done) | (simp; omega)))).mono hsz))
              clear hb
              go_wp2_with fail
              go_roundw
              case rel => exact ⟨c + 1, by omega, by go_num, HB8⟩
              case measure => simp [intOf]; omega
            · have e1 : ((op : Int) == (pn : Int)) = false := by
                rw [beq_eq_false_iff_ne]
                intro h
                exact hin (hmem.2 (hoa.1 (by omega)))
              have e2 : ¬ 0 ≤ fi := by have := hfn.2 hin; omega
              clear hoa hmem hop hfi hfn hin hfl hga
              go_wp2_with fail
              refine wp_region_bw2 (by kernel_rfl) (by kernel_rfl) (fun hbwc => ?_)
              repeat (go_big_quiet_step ((with_reducible exact bwSame (HFD.out _))))
              refine wpQuiet_nil ?_
              clear hbwc
              intro w8 hb
              have HB8 := Lib.hid (HB.out.trans (((show Below wr.heap.size wr _ from (by repeat (first | exact Below.refl _ _ | assumption | refine below_drewN ?_ _ | refine Below.drew ?_ | refine Below.setCell ?_ (by first | omega | (simp; done) | (simp; omega)) _ | refine Below.alloc ?_ (by first | omega | (simp; done) | (simp; omega)) _))).trans (hb.mono (by first | omega | (simp; done) | (simp; omega)))).mono hsz))
              clear hb
              go_wp2_with fail
              go_roundw
              case rel => exact ⟨c + 1, by omega, by go_num, HB8⟩
              case measure => simp [intOf]; omega
          · obtain rfl : c = N := by omega
            have HB9 := Lib.hid (HB7.out.trans (HB.out.mono hw07))
            go_wp2_with fail
            refine (works_ _ (HM.out.below HB9.out (Nat.le_refl _))).mono ?_
            rintro e w9 ⟨rfl, hb⟩
            have HB10 := Lib.hid (Below.tr HB9.out hb)
            clear hb
            go_wp2_with fail
            go_ret
            exact ⟨rfl, HB10.out⟩
  · have hnz : (v != 0) = true := by simpa using h0
    obtain rfl : ALL = [] := by rw [← HAE.out]; unfold fitL; rw [if_neg (by rw [HV.out]; exact h0)]
    clear x0 x1 xl
    go_wp2_with fail
    refine (works_ _ (HM.out.below HB1.out (Nat.le_refl _))).mono ?_
    rintro e w9 ⟨rfl, hb⟩
    have HB9 := Lib.hid (Below.tr HB1.out hb)
    clear hb
    go_wp2_with fail
    go_ret
    exact ⟨rfl, HB9.out⟩
end Go.Proofs.YtcclfhdglhbpcaaGreatDoor
