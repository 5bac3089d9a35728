/-
  The walk of the law SkyTrue.
-/
import Derived.Test.YtcclfhdglhbpcaaGreatDoorW33
import Derived.Test.YtcclfhdglhbpcaaGreatDoorW34
import Derived.Test.YtcclfhdglhbpcaaGreatDoorW25
import Derived.Test.YtcclfhdglhbpcaaGreatDoorW16
import Derived.Deep.RegionHeld3
namespace Go.Proofs.YtcclfhdglhbpcaaGreatDoor
open Go.RowKit Al

theorem own_some {w : World} {base : Nat} {e : TypeId} {sz : Nat} {A : Option Addr} {n c : Nat} {xs : List Value} (h : w.ownsRow base e sz (.slice A n c) n xs) (hn : 0 < n) : ∃ g, A = some ⟨g, 0, none⟩ := by
  rcases h.2 with ⟨h', h0⟩ | ⟨g, cap, cur, h', _⟩
  · simp only [Value.slice.injEq] at h'
    omega
  · simp only [Value.slice.injEq] at h'
    exact ⟨g, h'.1⟩
theorem grown_bel {A B : World} (h : Below A.heap.size A B) (g : Nat) : A.grownBy B (some g) := ⟨h.os, h.tape, h.output, h.size, fun k hk _ => h.block k hk⟩
theorem ShB.grown {W W' : World} {b g : Nat} {lv nv cv : Value} {T : Int} {ev sv : Value} (h : ShB W b lv nv cv T ev sv) (hg : W.grownBy W' (some g)) (hne : b ≠ g) : ShB W' b lv nv cv T ev sv := (hg.block b h.lt (fun e => hne (Option.some.inj e))).trans h
theorem sl_two {w : World} {B c : Nat} {A : Option Addr} {l : List Trg} (h : Sl w B 3 A l.length c (trCells l)) (h2 : 2 ≤ l.length) : Sl w B 3 A 2 c (trCells (l.take 2)) := by
  refine ⟨by rw [trCells_len, List.length_take]; omega, by have := h.cap; omega, h.max, h.nil_, fun hn => ?_⟩
  obtain ⟨b, off, e, hb, hc⟩ := h.at_ (by omega)
  refine ⟨b, off, e, hb, fun j u hu => hc j u ?_⟩
  have e2 : trCells l = trCells (l.take 2) ++ trCells (l.drop 2) := by
    unfold trCells
    rw [← List.flatMap_append, List.take_append_drop]
  rw [e2, List.getElem?_append_left (List.getElem?_eq_some_iff.1 hu).1]
  exact hu
def TrRel (H : List Trg) (g tc base : Nat) (W : World) (i : Value) (wr : World) : Prop := ∃ k : Nat, k ≤ H.length ∧ i = .int .i64 (k : Int) ∧ Hid (wr.ownsRow base 41 3 (.slice (some ⟨g, 0, none⟩) H.length tc) H.length (trCells (mixT H k))) ∧ Hid (W.grownBy wr (some g))
set_option maxRecDepth 100000 in
set_option maxHeartbeats 16000000 in
theorem skyTrue_ (L : List NSi) (LA EA SA : Option Addr) (lc ec sc : Nat) (n cl T : Int) (er sl : List Int) (w : World) (hM : MxL w) (hL : Sl w w.heap.size 10 LA L.length lc (nsCells L)) (hm : ∀ x ∈ L, x.nm.size ≤ maxLen)
    (hE : Sl w w.heap.size 1 EA er.length ec (ints er)) (hS : Sl w w.heap.size 1 SA sl.length sc (ints sl)) :
    Calls Tryz.prog 4 #[.agg #[.slice LA L.length lc, .int .i64 n, .int .i64 cl, .int .i64 T, .slice EA er.length ec, .slice SA sl.length sc]] w fun e w' => e = .returned (.bool true) ∧ Below w.heap.size w w' := by
  have HM := Lib.hid hM
  have HL := Lib.hid hL
  have HN := Lib.hid hm
  have HE := Lib.hid hE
  have HS := Lib.hid hS
  have HTF := Lib.hid (fun h (N : Nat) (hN : (N : Int) = 6 * (n * n)) => true_facts (L := L) (n := n) (cl := cl) h T er sl (N := N) hN)
  obtain ⟨v, hv⟩ : ∃ v, celG L n cl = v := ⟨_, rfl⟩
  obtain ⟨AT, hAT⟩ : ∃ l, arrE L n cl = l := ⟨_, rfl⟩
  have HV := Lib.hid hv
  have HAE := Lib.hid hAT
  have HAR := Lib.hid (fun W (hW : Below w.heap.size w W) => Arrive_ L LA lc n cl W ((hL.below hW).more hW.size) hm)
  rw [hv, hAT] at HAR
  rw [hAT] at HTF
  clear hM hL hm hE hS hv hAT
  go_enter Tryz.func4, Tryz.ntmps4
  go_wp2_with fail
  have HX : Hid (ShB (w.alloc (.cells #[.slice LA L.length lc, .int .i64 n, .int .i64 cl, .int .i64 T, .slice EA er.length ec, .slice SA sl.length sc] 36)) w.heap.size (.slice LA L.length lc) (.int .i64 n) (.int .i64 cl) T (.slice EA er.length ec) (.slice SA sl.length sc)) := heap_alloc_new w _
  have HBW : Hid (Below w.heap.size w (w.alloc (.cells #[.slice LA L.length lc, .int .i64 n, .int .i64 cl, .int .i64 T, .slice EA er.length ec, .slice SA sl.length sc] 36))) := (Below.refl _ _).alloc (Nat.le_refl _) _
  obtain ⟨wb, hwb⟩ : ∃ wb, w.alloc (.cells #[.slice LA L.length lc, .int .i64 n, .int .i64 cl, .int .i64 T, .slice EA er.length ec, .slice SA sl.length sc] 36) = wb := ⟨_, rfl⟩
  rw [hwb] at HX HBW ⊢
  have hvl : w.heap.size ≤ wb.heap.size := HBW.out.size
  obtain ⟨vb, hvb⟩ : ∃ b, w.heap.size = b := ⟨_, rfl⟩
  rw [hvb] at HX ⊢
  clear hwb hvb
  refine (HAR.out wb HBW.out).mono ?_
  rintro e w1 ⟨s1, rfl, ho, hb⟩
  obtain ⟨AA, ac, rfl⟩ := own_form ho
  have HO1 := Lib.hid ho
  have HB1 := Lib.hid (HBW.out.trans (hb.mono hvl))
  have HX1 := Lib.hid (HX.out.below hb)
  clear ho hb HAR
  have x0 := HX1.out.c0
  have x1 := HX1.out.c1
  have x2 := HX1.out.c2
  have x3 := HX1.out.c3
  have x4 := HX1.out.c4
  have x5 := HX1.out.c5
  have xl := HX1.out.lt
  by_cases h0 : v = 0
  · obtain ⟨N, hN⟩ : ∃ N : Nat, (N : Int) = 6 * (n * n) := by
      obtain ⟨_, _, n1, n8⟩ := netG_ok (celG_ok (HV.out.trans h0)).1
      obtain ⟨k1, k2, k3⟩ := six_in n1 n8
      exact ⟨(6 * (n * n)).toNat, by omega⟩
    obtain ⟨htf, hal, hl6, hl2, hab⟩ := HTF.out (HV.out.trans h0) N hN
    subst h0
    rw [← hal] at htf hl6 hl2
    have hne : ((AT.length : Int) != (L.length : Int)) = false := by simp [hal]
    have HAL := Lib.hid hal
    obtain ⟨H, hH⟩ : ∃ H, hrdT AT T er sl AT.length = H := ⟨_, rfl⟩
    have hHl : H.length = AT.length := by rw [← hH, hrd_len]
    have HRD := Lib.hid (heard_ AT er sl T (.slice LA L.length lc) (.int .i64 n) (.int .i64 cl) ⟨rfl, rfl, rfl⟩ AA EA SA ac ec sc w1 (Sl.of_own HO1.out) ((HE.out.below HB1.out).more HB1.out.size) ((HS.out.below HB1.out).more HB1.out.size) hl6 hab)
    rw [hH] at htf HRD
    obtain ⟨g1, g2, g3, f1, f2, f3, sm⟩ := htf
    obtain ⟨ALL, hALL⟩ : ∃ l, fitL L n H N = l := ⟨_, rfl⟩
    obtain ⟨FEW, hFEW⟩ : ∃ l, fitL L n (H.take 2) N = l := ⟨_, rfl⟩
    obtain ⟨MORE, hMORE⟩ : ∃ l, fitL L n (H.map moreT) N = l := ⟨_, rfl⟩
    have e2 : (H.take 2).length = 2 := by rw [List.length_take]; omega
    have e3 : (H.map moreT).length = H.length := List.length_map _
    have HF1 := Lib.hid (fun W (hW : Below w.heap.size w W) A c (hT : Sl W W.heap.size 3 A H.length c (trCells H)) => fits_ L LA A lc c n H W ((HL.out.below hW).more hW.size) HN.out hT N hN)
    have HF2 : Hid (∀ W (hW : Below w.heap.size w W) A c (hT : Sl W W.heap.size 3 A 2 c (trCells (H.take 2))), Calls Tryz.prog 15 #[.slice LA L.length lc, .int .i64 n, .slice A 2 c] W (FitOut 0 FEW W)) := fun W hW A c hT => by
      have h := fits_ L LA A lc c n (H.take 2) W ((HL.out.below hW).more hW.size) HN.out (by rw [e2]; exact hT) N hN
      rw [g2, hFEW, e2] at h
      exact h
    have HF3 : Hid (∀ W (hW : Below w.heap.size w W) A c (hT : Sl W W.heap.size 3 A H.length c (trCells (H.map moreT))), Calls Tryz.prog 15 #[.slice LA L.length lc, .int .i64 n, .slice A H.length c] W (FitOut 0 MORE W)) := fun W hW A c hT => by
      have h := fits_ L LA A lc c n (H.map moreT) W ((HL.out.below hW).more hW.size) HN.out (by rw [e3]; exact hT) N hN
      rw [g3, hMORE, e3] at h
      exact h
    rw [g1, hALL] at HF1
    rw [hALL] at f1 f2 f3
    rw [hFEW] at f2
    rw [hMORE] at f3
    have HI2 := Lib.hid f2
    have HI3 := Lib.hid f3
    have HSM := Lib.hid sm
    have hH2 : 2 ≤ H.length := by omega
    have hH6 : H.length ≤ 6 := by omega
    have HHL := Lib.hid hHl
    clear hHl
    clear hH f2 f3 sm g1 g2 g3 hALL hFEW hMORE hN hal hab HTF
    go_wp2_with fail
    refine HRD.out.mono ?_
    rintro e w2 ⟨TB, tc, rfl, ho, hb⟩
    obtain ⟨g, rfl⟩ := own_some ho (by omega)
    have HO2 := Lib.hid ho
    have HB2 := Lib.hid (HB1.out.trans (hb.mono HB1.out.size))
    have HX2 := Lib.hid (HX1.out.below hb)
    have hg1 : w1.heap.size ≤ g := (own_lt ho rfl).1
    have hg2 : g < w2.heap.size := (own_lt ho rfl).2
    have hvg : vb < g := by omega
    have hwg : w.heap.size ≤ g := Nat.le_trans HB1.out.size hg1
    have htc : H.length ≤ tc := (Sl.of_own ho).cap
    have hz12 := hb.size
    clear ho hb HRD x0 x1 x2 x3 x4 x5 xl
    have x0 := HX2.out.c0
    have x1 := HX2.out.c1
    have xl := HX2.out.lt
    go_wp2_with fail
    refine (HF1.out w2 HB2.out (some ⟨g, 0, none⟩) tc (Sl.of_own HO2.out)).mono ?_
    rintro e w3 ⟨s3, rfl, ho, hb⟩
    obtain ⟨A3, c3, rfl⟩ := own_form ho
    have HO3 := Lib.hid ho
    have HB3 := Lib.hid (HB2.out.trans (hb.mono HB2.out.size))
    have HX3 := Lib.hid (HX2.out.below hb)
    have HOT3 := Lib.hid (own_below HO2.out (Nat.le_refl _) hb)
    have hz23 := hb.size
    clear ho hb HF1 x0 x1 xl
    have x0 := HX3.out.c0
    have x1 := HX3.out.c1
    have x2 := HX3.out.c2
    have xl := HX3.out.lt
    go_wp2_with (go_at_call 20; refine (Find_ ALL cl A3 c3 _ (Sl.of_own HO3.out)).mono ?_; rintro e w' ⟨rfl, rfl⟩)
    have h2c : 2 ≤ tc := by omega
    have HT3 := Lib.hid (sl_two (Sl.of_own HOT3.out) (by omega))
    have h2c : 2 ≤ tc := by omega
    have h2d : (2 : Int) ≤ (tc : Int) := by omega
    have DC : Below w3.heap.size w3 w3 := Below.refl _ _
    clear f1
    go_region_held3 (fun w' => ∀ b o, b < w3.heap.size → w'.cell? ⟨b, o, none⟩ = w3.cell? ⟨b, o, none⟩) (first | exact kN | exact fun b o h => rfl)
      (first
      | (go_at_call 15; refine (HF2.out _ (HB3.out.trans (Below.mono (Below.trans DC (by (repeat (first | exact Below.refl _ _ | assumption | refine below_drewN ?_ _ | refine Below.drew ?_ | refine Below.setCell ?_ (by first | omega | (simp; done) | (simp; omega)) _ | refine Below.alloc ?_ (by first | omega | (simp; done) | (simp; omega)) _)))) HB3.out.size)) (some ⟨g, 0, none⟩) tc (HT3.out.bT (Below.trans DC (by (repeat (first | exact Below.refl _ _ | assumption | refine below_drewN ?_ _ | refine Below.drew ?_ | refine Below.setCell ?_ (by first | omega | (simp; done) | (simp; omega)) _ | refine Below.alloc ?_ (by first | omega | (simp; done) | (simp; omega)) _)))))).mono ?_; rintro e wn ⟨s5, rfl, ho, hbn⟩; obtain ⟨A5, c5, rfl⟩ := own_form ho; have HO5 := Lib.hid ho; have sC := hbn.size; (try simp at sC); have DC := Below.trans DC (Below.trans (show Below w3.heap.size _ _ from (by (repeat (first | exact Below.refl _ _ | assumption | refine below_drewN ?_ _ | refine Below.drew ?_ | refine Below.setCell ?_ (by first | omega | (simp; done) | (simp; omega)) _ | refine Below.alloc ?_ (by first | omega | (simp; done) | (simp; omega)) _)))) (hbn.mono (by first | omega | (simp; done) | (simp; omega)))); have kN := (fun b o (h : b < w3.heap.size) => DC.cell (p := ⟨b, o, none⟩) h); clear hbn; clear ho))
    have HO5 : Hid (wn.ownsRow w3.heap.size 3 1 (.slice A5 FEW.length c5) FEW.length (ints FEW)) := own_le HO5.out (by simp)
    obtain ⟨w5, hw5⟩ : ∃ w5, w5 = wn := ⟨_, rfl⟩
    rw [← hw5] at DC HO5 ⊢
    have HB5 := Lib.hid (HB3.out.trans (DC.mono HB3.out.size))
    have HX5 := Lib.hid (HX3.out.below DC)
    have HOT5 := Lib.hid (own_below HOT3.out (Nat.le_refl _) DC)
    have HOA5 := Lib.hid (own_below HO3.out (Nat.le_refl _) DC)
    have hz45 := DC.size
    clear hw5 kN DC HF2 HT3 x0 x1 x2 xl
    go_wp2_with (go_at_call 21; refine (inside_ ALL FEW A3 c3 A5 c5 _ (Sl.of_own HOA5.out) (Sl.of_own HO5.out)).mono ?_; rintro e w' ⟨rfl, rfl⟩; rw [HI2.out])
    have hwl5 : w.heap.size ≤ w5.heap.size := HB5.out.size
    go_loopw [8] (fun i wr => TrRel H g tc w1.heap.size w5 i wr) (fun i _ => H.length - (intOf i).toNat)
    case atStart => exact ⟨0, Nat.zero_le _, rfl, Lib.hid (by rw [mixT_zero]; exact HOT5.out), World.grownBy.refl _ _⟩
    case round =>
      obtain ⟨k, hk, rfl, HO, HG⟩ := hrel
      have hszr := HG.out.size
      by_cases hlt : k < H.length
      · obtain ⟨gb, go, hA, hgb, c0, c1, c2⟩ := (Sl.of_own (by rw [← mixT_len H k] at HO; exact HO.out)).tr_at (k := k) (by rw [mixT_len]; exact hlt)
        cases hA
        rw [mixT_get hlt] at c0 c1 c2
        have hq0 := HO.out.frozenAt (k * 3)
        have hq1 := HO.out.frozenAt (k * 3 + 1)
        have hq2 := HO.out.frozenAt (k * 3 + 2)
        have HST : Hid (∀ a b c : Int, H[k] = (a, b, c) → (((trCells (mixT H k)).set (k * 3) (.int .i64 a)).set (k * 3 + 1) (.int .i64 b)).set (k * 3 + 2) (.int .i64 (c + 3)) = trCells (mixT H (k + 1))) := fun a b c h => by
          rw [← mixT_succ hlt, h]
          exact trCells_set (mixT H k) k (moreT (a, b, c)) (by rw [mixT_len]; exact hlt)
        have hsm := HSM.out _ (List.getElem_mem hlt)
        obtain ⟨a, b, c, habc⟩ : ∃ a b c, H[k] = (a, b, c) := ⟨_, _, _, rfl⟩
        have HSX := Lib.hid (HST.out a b c habc)
        rw [habc] at c0 c1 c2 hsm
        simp only [Nat.zero_add] at c0 c1 c2 hsm
        obtain ⟨_, _, _, _, hs5, hs6⟩ := hsm
        have hlt' : (k : Int) < (H.length : Int) := by omega
        have k0 : (0 : Int) ≤ (k : Int) := by omega
        have hgw : g < wr.heap.size := by omega
        clear habc HST
        go_wp2_with fail
        refine wp_region_bwt 20 (by kernel_rfl) (by kernel_rfl) (fun hbwc => ?_)
        simp only [List.take_succ_cons, List.take_zero, List.drop_succ_cons, List.drop_zero]
        repeat (go_big_quiet_step (fail))
        refine wpQuiet_nil ?_
        clear hbwc
        intro w6 hb
        have HB6 : Hid (Below wr.heap.size wr w6) := (show Below wr.heap.size wr _ from (by repeat (first | exact Below.refl _ _ | assumption | refine below_drewN ?_ _ | refine Below.drew ?_ | refine Below.setCell ?_ (by first | omega | (simp; done) | (simp; omega)) _ | refine Below.alloc ?_ (by first | omega | (simp; done) | (simp; omega)) _))).trans (hb.mono (by first | omega | (simp; done) | (simp; omega)))
        have HO6 := Lib.hid (own_below HO.out (Nat.le_refl _) HB6.out)
        have p0 := (HB6.out.cell (p := ⟨g, k * 3, none⟩) hgw).trans c0
        have p1 := (HB6.out.cell (p := ⟨g, k * 3 + 1, none⟩) hgw).trans c1
        have p2 := (HB6.out.cell (p := ⟨g, k * 3 + 2, none⟩) hgw).trans c2
        have q0 := HO6.out.frozenAt (k * 3)
        have q1 := HO6.out.frozenAt (k * 3 + 1)
        have q2 := HO6.out.frozenAt (k * 3 + 2)
        have hgw6 : g < w6.heap.size := Nat.lt_of_lt_of_le hgw HB6.out.size
        clear hb c0 c1 c2 hq0 hq1 hq2
        go_wp2_with fail
        have h1 := HO6.out.stored (k * 3) (.int .i64 a)
        have h2 := h1.1.stored (k * 3 + 1) (.int .i64 b)
        have h3 := h2.1.stored (k * 3 + 2) (.int .i64 (c + 3))
        rw [HSX.out] at h3
        have HR3 := Lib.hid h3.1
        have HG3 := Lib.hid (((HG.out.trans (grown_bel HB6.out g)).trans h1.2).trans (h2.2.trans h3.2))
        clear h1 h2 h3
        go_roundw
        case rel => exact ⟨k + 1, by omega, by go_num, HR3, HG3⟩
        case measure => simp [intOf]; omega
      · obtain rfl : k = H.length := by omega
        rw [mixT_all] at HO
        have HB7 := Lib.hid (HB5.out.grown HG.out hwl5 (fun z e => by cases e; omega))
        have HX7 := Lib.hid (HX5.out.grown HG.out (show vb ≠ g by omega))
        have HOA7 := Lib.hid (HOA5.out.kept HG.out (.inr (fun e => by have := (own_lt HOA5.out e).1; omega)))
        have x0 := HX7.out.c0
        have x1 := HX7.out.c1
        have xl := HX7.out.lt
        go_wp2_with fail
        refine (HF3.out wr HB7.out (some ⟨g, 0, none⟩) tc (by have h := Sl.of_own HO.out; exact h)).mono ?_
        rintro e w8 ⟨s8, rfl, ho, hb⟩
        obtain ⟨A8, c8, rfl⟩ := own_form ho
        have HO8 := Lib.hid ho
        have HB8 := Lib.hid (HB7.out.trans (hb.mono HB7.out.size))
        have HOA8 := Lib.hid (own_below HOA7.out (Nat.le_refl _) hb)
        clear ho hb x0 x1 xl
        go_wp2_with (go_at_call 21; refine (inside_ ALL MORE A3 c3 A8 c8 _ (Sl.of_own HOA8.out) (Sl.of_own HO8.out)).mono ?_; rintro e w' ⟨rfl, rfl⟩; rw [HI3.out])
        refine (works_ _ (HM.out.below HB8.out (Nat.le_refl _))).mono ?_
        rintro e w9 ⟨rfl, hb⟩
        have HB9 := Lib.hid (Below.tr HB8.out hb)
        clear hb
        go_wp2_with fail
        go_ret
        exact ⟨rfl, HB9.out⟩
  · have hnz : (v != 0) = true := by simpa using h0
    obtain rfl : AT = [] := by rw [← HAE.out]; unfold arrE; rw [if_neg (by rw [HV.out]; exact h0)]
    clear x0 x1 x2 x3 x4 x5 xl HTF
    go_wp2_with fail
    refine (works_ _ (HM.out.below HB1.out (Nat.le_refl _))).mono ?_
    rintro e w9 ⟨rfl, hb⟩
    have HB9 := Lib.hid (Below.tr HB1.out hb)
    clear hb
    go_wp2_with fail
    go_ret
    exact ⟨rfl, HB9.out⟩
end Go.Proofs.YtcclfhdglhbpcaaGreatDoor
