/-
  The walk of the sky's Fits.
-/
import Derived.Test.YtmpbhngjkbidcaaGreatDoorW06
namespace Go.Proofs.YtmpbhngjkbidcaaGreatDoor
open Go.RowKit Al

/-- Is arrival k in order? -/
def arrStep (m : Nat) (t : List Trg) (k : Nat) : Bool :=
  inB (t.getD k (0, 0, 0)).1 0 ((m : Int) - 1) && ((k == 0 || decide ((t.getD (k - 1) (0, 0, 0)).1 < (t.getD k (0, 0, 0)).1)) && (inB (t.getD k (0, 0, 0)).2.1 (-1099511627776) 1099511627776 && inB (t.getD k (0, 0, 0)).2.2 0 65536))
def arrN (m : Nat) (t : List Trg) (k : Nat) : Bool := (List.range k).all (arrStep m t)
/-- Are these arrivals? -/
def arrB (m : Nat) (t : List Trg) : Bool := arrN m t t.length && decide (2 ≤ t.length)
theorem arrN_succ (m : Nat) (t : List Trg) (k : Nat) : arrN m t (k + 1) = (arrN m t k && arrStep m t k) := by
  unfold arrN
  rw [List.range_succ, List.all_append]
  simp
theorem arrB_no {m : Nat} {t : List Trg} {k : Nat} (hk : k < t.length) (h : arrStep m t k = false) : arrB m t = false := by
  have : arrN m t t.length = false := by
    unfold arrN
    rw [List.all_eq_false]
    exact ⟨k, by simpa using hk, by rw [h]; simp⟩
  unfold arrB
  rw [this]
  rfl
theorem arr_ok {m : Nat} {t : List Trg} (h : arrN m t t.length = true) : ∀ x ∈ t, ArrOk m x := by
  intro x hx
  obtain ⟨k, hk, rfl⟩ := List.getElem_of_mem hx
  have h1 := List.all_eq_true.1 h k (by simpa using hk)
  unfold arrStep at h1
  rw [show t.getD k (0, 0, 0) = t[k] by simp [hk]] at h1
  simp only [Bool.and_eq_true] at h1
  obtain ⟨a, -, b, c⟩ := h1
  have a := inB_true.1 a
  have b := inB_true.1 b
  have c := inB_true.1 c
  exact ⟨a.1, by omega, b.1, b.2, c.1, c.2⟩
/-- The first error of a network, a grid and arrivals. -/
def fitG (L : List NSi) (n : Int) (t : List Trg) : Int := if netG L n == 0 then (if arrB L.length t then 0 else 92) else netG L n
/-- The cells that fit. -/
def fitL (L : List NSi) (n : Int) (t : List Trg) (N : Nat) : List Int := if fitG L n t = 0 then pickL (fitB (sites L) t) (cellsL n N) else []
theorem netG_ok {L : List NSi} {n : Int} (hv : netG L n = 0) : 2 ≤ L.length ∧ L.length ≤ 6 ∧ 1 ≤ n ∧ n ≤ 8 := by
  have he : netE L = 0 := by
    rcases netE_cases L with h | h
    · exact h
    · unfold netG at hv; rw [h] at hv; cases hv
  have hg : inB n 1 8 = true := by
    unfold netG at hv
    rw [he] at hv
    cases hg : inB n 1 8 with
    | true => rfl
    | false => rw [hg] at hv; cases hv
  have hnb : netB L = true := by
    unfold netE at he
    cases hb : netB L with
    | true => rfl
    | false => rw [hb] at he; cases he
  unfold netB at hnb
  simp only [Bool.and_eq_true] at hnb
  have h1 := inB_true.1 hnb.1.1
  have h2 := inB_true.1 hg
  exact ⟨by omega, by omega, h2.1, h2.2⟩
def SkFiRel (m : Nat) (t : List Trg) (w : World) (i : Value) (wr : World) : Prop := ∃ k : Nat, k ≤ t.length ∧ i = .int .i64 k ∧ Hid (arrN m t k = true) ∧ Below w.heap.size w wr
def FitOut (v : Int) (l : List Int) (w : World) (e : Ending) (w' : World) : Prop := ∃ s, e = .returned (.tuple #[s, .int .i64 v]) ∧ w'.ownsRow w.heap.size 3 1 s l.length (ints l) ∧ Below w.heap.size w w'
theorem FitOut.none (v : Int) {w w' : World} (h : Below w.heap.size w w') : FitOut v [] w (.returned (.tuple #[.slice none 0 0, .int .i64 v])) w' := ⟨_, rfl, World.ownsRow_nil _ _ _ _, h⟩
set_option maxRecDepth 100000 in
theorem fits_e (L : List NSi) (A B : Option Addr) (c cb : Nat) (n : Int) (t : List Trg) (w : World) (v : Int) (hv : netG L n = v) (h0 : ¬ v = 0) (hL : Sl w w.heap.size 10 A L.length c (nsCells L)) (hm : ∀ x ∈ L, x.nm.size ≤ maxLen) (_hlt : t.length ≤ maxLen) :
    Calls Tryz.prog 9 #[.slice A L.length c, .int .i64 n, .slice B t.length cb] w (FitOut v [] w) := by
  have hnz : (v != 0) = true := by simpa using h0
  have HL := Lib.hid hL
  have HM := Lib.hid hm
  have HV := Lib.hid hv
  have HZ := Lib.hid h0
  clear hL hm hv h0
  go_enter Tryz.func9, Tryz.ntmps9
  go_wp2_with fail
  refine (netted_e L A c n v _ HV.out HZ.out ((HL.out.alloc (Nat.le_refl _) _).more (by simp)) HM.out).mono ?_
  rintro e w1 ⟨rfl, hb⟩
  have HB : Hid (Below w.heap.size w w1) := (show Below w.heap.size w _ from (by repeat (first | exact Below.refl _ _ | assumption | refine below_drewN ?_ _ | refine Below.drew ?_ | refine Below.setCell ?_ (by first | omega | (simp; done) | (simp; omega)) _ | refine Below.alloc ?_ (by first | omega | (simp; done) | (simp; omega)) _))).trans (hb.mono (by simp))
  clear hb
  go_wp2_with fail
  go_ret2
  exact FitOut.none v (HB.out.alloc HB.out.size _)
set_option maxRecDepth 100000 in
set_option maxHeartbeats 8000000 in
theorem fits_t (L : List NSi) (A B : Option Addr) (c cb : Nat) (n : Int) (t : List Trg) (w : World) (hg : netG L n = 0) (hL : Sl w w.heap.size 10 A L.length c (nsCells L)) (hm : ∀ x ∈ L, x.nm.size ≤ maxLen) (hT : Sl w w.heap.size 3 B t.length cb (trCells t))
    (N : Nat) (hN : (N : Int) = 6 * (n * n)) (v : Int) (hv : (if arrB L.length t then 0 else 92) = v) (l : List Int) (hl : (if v = 0 then pickL (fitB (sites L) t) (cellsL n N) else []) = l) :
    Calls Tryz.prog 9 #[.slice A L.length c, .int .i64 n, .slice B t.length cb] w (FitOut v l w) := by
  have hlt : t.length ≤ maxLen := Nat.le_trans hT.cap hT.max
  unfold maxLen at hlt
  obtain ⟨hl2, hl6, hn1, hn8⟩ := netG_ok hg
  have HL := Lib.hid hL
  have HM := Lib.hid hm
  have HT := Lib.hid hT
  have HV := Lib.hid hv
  have HG := Lib.hid hg
  have HR := Lib.hid hl
  have HN := Lib.hid hN
  clear hL hm hT hv hg hl hN
  go_enter Tryz.func9, Tryz.ntmps9
  go_wp2_with fail
  refine (netted_ok L A c n _ HG.out ((HL.out.alloc (Nat.le_refl _) _).more (by simp)) HM.out).mono ?_
  rintro e w1 ⟨S, cs, rfl, hown, hb⟩
  have HB1 : Hid (Below (w.heap.size + 1) (w.alloc (.cells #[.slice B t.length cb] 50)) w1) := hb.mono (by simp)
  have HO1 := Lib.hid hown
  have hz1 := hb.size
  simp only [World.size_alloc] at hz1
  have k0 : w1.cell? ⟨w.heap.size, 0, none⟩ = some (.slice B t.length cb) := (HB1.out.cell (p := ⟨w.heap.size, 0, none⟩) (Nat.lt_succ_self _)).trans (by simp [go_sem])
  have k1 : w.heap.size < w1.heap.size := by omega
  clear hb hown
  go_wp2_with fail
  have HWA : Hid (Below w.heap.size w (w1.alloc (.cells #[.slice S L.length cs] 105))) := (((show Below w.heap.size w (w.alloc (.cells #[.slice B t.length cb] 50)) from (by repeat (first | exact Below.refl _ _ | assumption | refine below_drewN ?_ _ | refine Below.drew ?_ | refine Below.setCell ?_ (by first | omega | (simp; done) | (simp; omega)) _ | refine Below.alloc ?_ (by first | omega | (simp; done) | (simp; omega)) _))).trans (HB1.out.mono (by omega))).alloc (by omega) _)
  have HK0 : Hid ((w1.alloc (.cells #[.slice S L.length cs] 105)).cell? ⟨w.heap.size, 0, none⟩ = some (.slice B t.length cb)) := (World.cell?_alloc_past (w := w1) _ _ _ k1).trans k0
  have HK1 : Hid ((w1.alloc (.cells #[.slice S L.length cs] 105)).cell? ⟨w1.heap.size, 0, none⟩ = some (.slice S L.length cs)) := by show _ = _; simp [go_sem]
  have HSA : Hid (Sl (w1.alloc (.cells #[.slice S L.length cs] 105)) w1.heap.size 9 S L.length cs (siCells (sites L))) := (Sl.of_own HO1.out).alloc (Nat.le_refl _) _
  have hwz : (w1.alloc (.cells #[.slice S L.length cs] 105)).heap.size = w1.heap.size + 1 := by simp
  obtain ⟨wa, hwa⟩ : ∃ wa, w1.alloc (.cells #[.slice S L.length cs] 105) = wa := ⟨_, rfl⟩
  rw [hwa] at HWA HK0 HK1 HSA hwz ⊢
  have HWZ := Lib.hid hwz
  have k2 : w1.heap.size < wa.heap.size := by omega
  clear hwa hwz k0
  have hwa : w.heap.size ≤ wa.heap.size := by omega
  go_loopw [23] (fun i wr => SkFiRel L.length t wa i wr) (fun i _ => t.length - (intOf i).toNat)
  case atStart => exact ⟨0, Nat.zero_le _, rfl, rfl, Below.refl _ _⟩
  case round =>
    obtain ⟨k, hk, rfl, hN, hbw⟩ := hrel
    have HBW := Lib.hid hbw
    have hsz := hbw.size
    clear hbw
    by_cases hlt : k < t.length
    · obtain ⟨tb, to, rfl, htb, c0, c1, c2⟩ := (HT.out.below (HWA.out.trans (HBW.out.mono hwa))).tr_at hlt
      have hstp : arrStep L.length t k = (inB t[k].1 0 ((L.length : Int) - 1) && ((k == 0 || decide ((t.getD (k - 1) (0, 0, 0)).1 < t[k].1)) && (inB t[k].2.1 (-1099511627776) 1099511627776 && inB t[k].2.2 0 65536))) := by unfold arrStep; rw [show t.getD k (0, 0, 0) = t[k] by simp [hlt]]
      have HBAD : Hid ((inB t[k].1 0 ((L.length : Int) - 1) && ((k == 0 || decide ((t.getD (k - 1) (0, 0, 0)).1 < t[k].1)) && (inB t[k].2.1 (-1099511627776) 1099511627776 && inB t[k].2.2 0 65536))) = false → v = 92 ∧ l = []) := fun h => by
        have h1 : v = 92 := by rw [← HV.out, arrB_no hlt (by rw [hstp]; exact h)]; rfl
        exact ⟨h1, by rw [← HR.out, h1]; rfl⟩
      have HOK : Hid ((inB t[k].1 0 ((L.length : Int) - 1) && ((k == 0 || decide ((t.getD (k - 1) (0, 0, 0)).1 < t[k].1)) && (inB t[k].2.1 (-1099511627776) 1099511627776 && inB t[k].2.2 0 65536))) = true → arrN L.length t (k + 1) = true) := fun h => by rw [arrN_succ, hN.out, hstp, h]; rfl
      clear hstp
      have hlt' : (k : Int) < (t.length : Int) := by omega
      have htb2 : tb < wr.heap.size := by omega
      have hw2 : w.heap.size < wr.heap.size := by omega
      have hw3 : w1.heap.size < wr.heap.size := by omega
      have g0 := (HBW.out.cell (p := ⟨w.heap.size, 0, none⟩) (show w.heap.size < wa.heap.size by omega)).trans HK0.out
      have g1 := (HBW.out.cell (p := ⟨w1.heap.size, 0, none⟩) (show w1.heap.size < wa.heap.size by omega)).trans HK1.out
      have s1 : IntKind.i64.wrap ((L.length : Int) - 1) = (L.length : Int) - 1 := IntWalk.i64_in _ (by omega)
      obtain ⟨t1, t2, t3, ht⟩ : ∃ a b c, t[k] = (a, b, c) := ⟨_, _, _, rfl⟩
      rw [ht] at c0 c1 c2 HBAD HOK
      simp only at HBAD HOK
      clear ht
      cases b1 : inB t1 0 ((L.length : Int) - 1) with
      | false =>
        have HNO : Hid (v = 92 ∧ l = []) := HBAD.out (by simp [b1])
        go_wp2_with fail
        refine wp_region_bw2 (by kernel_rfl) (by kernel_rfl) (fun hbwc => ?_)
        repeat (go_big_quiet_step ((go_at_call 38; exact bwSame (swithin_ _ _ _ _))))
        refine wpQuiet_nil ?_
        clear hbwc
        intro w3 hb
        have Hw3 := Lib.hid (HBW.out.trans (Below.trans (by (repeat (first | exact Below.refl _ _ | assumption | refine below_drewN ?_ _ | refine Below.drew ?_ | refine Below.setCell ?_ (by first | omega | (simp; done) | (simp; omega)) _ | refine Below.alloc ?_ (by first | omega | (simp; done) | (simp; omega)) _))) (hb.mono (by first | omega | (simp; done) | (simp; omega)))))
        clear hb s1
        go_wp2_with fail
        go_ret2
        exact (show FitOut v l w _ _ from by rw [HNO.out.1, HNO.out.2]; exact FitOut.none 92 (HWA.out.trans (Hw3.out.mono hwa)))
      | true =>
        by_cases hk0 : k = 0
        · have hd0 : decide ((0 : Int) < (k : Int)) = false := decide_eq_false (by omega)
          have hd9 : decide (0 < k) = false := decide_eq_false (by omega)
          have HP : (k == 0 || decide ((t.getD (k - 1) (0, 0, 0)).1 < t1)) = true := by simp [hk0]
          clear hk0
          cases b2 : inB t2 (-1099511627776) 1099511627776 with
          | false =>
            have HNO : Hid (v = 92 ∧ l = []) := HBAD.out (by simp [b2])
            go_wp2_with fail
            refine wp_region_bw2 (by kernel_rfl) (by kernel_rfl) (fun hbwc => ?_)
            repeat (go_big_quiet_step ((go_at_call 38; exact bwSame (swithin_ _ _ _ _))))
            refine wpQuiet_nil ?_
            clear hbwc
            intro w3 hb
            have Hw3 := Lib.hid (HBW.out.trans (Below.trans (by (repeat (first | exact Below.refl _ _ | assumption | refine below_drewN ?_ _ | refine Below.drew ?_ | refine Below.setCell ?_ (by first | omega | (simp; done) | (simp; omega)) _ | refine Below.alloc ?_ (by first | omega | (simp; done) | (simp; omega)) _))) (hb.mono (by first | omega | (simp; done) | (simp; omega)))))
            clear hb s1
            go_wp2_with fail
            go_ret2
            exact (show FitOut v l w _ _ from by rw [HNO.out.1, HNO.out.2]; exact FitOut.none 92 (HWA.out.trans (Hw3.out.mono hwa)))
          | true =>
            cases b3 : inB t3 0 65536 with
            | false =>
              have HNO : Hid (v = 92 ∧ l = []) := HBAD.out (by simp [b3])
              go_wp2_with fail
              refine wp_region_bw2 (by kernel_rfl) (by kernel_rfl) (fun hbwc => ?_)
              repeat (go_big_quiet_step ((go_at_call 38; exact bwSame (swithin_ _ _ _ _))))
              refine wpQuiet_nil ?_
              clear hbwc
              intro w3 hb
              have Hw3 := Lib.hid (HBW.out.trans (Below.trans (by (repeat (first | exact Below.refl _ _ | assumption | refine below_drewN ?_ _ | refine Below.drew ?_ | refine Below.setCell ?_ (by first | omega | (simp; done) | (simp; omega)) _ | refine Below.alloc ?_ (by first | omega | (simp; done) | (simp; omega)) _))) (hb.mono (by first | omega | (simp; done) | (simp; omega)))))
              clear hb s1
              go_wp2_with fail
              go_ret2
              exact (show FitOut v l w _ _ from by rw [HNO.out.1, HNO.out.2]; exact FitOut.none 92 (HWA.out.trans (Hw3.out.mono hwa)))
            | true =>
              have HST : Hid (arrN L.length t (k + 1) = true) := HOK.out (by rw [b1, HP, b2, b3]; rfl)
              clear HP
              go_wp2_with fail
              refine wp_region_bw2 (by kernel_rfl) (by kernel_rfl) (fun hbwc => ?_)
              repeat (go_big_quiet_step ((go_at_call 38; exact bwSame (swithin_ _ _ _ _))))
              refine wpQuiet_nil ?_
              clear hbwc
              intro w3 hb
              have Hw3 := Lib.hid (HBW.out.trans (Below.trans (by (repeat (first | exact Below.refl _ _ | assumption | refine below_drewN ?_ _ | refine Below.drew ?_ | refine Below.setCell ?_ (by first | omega | (simp; done) | (simp; omega)) _ | refine Below.alloc ?_ (by first | omega | (simp; done) | (simp; omega)) _))) (hb.mono (by first | omega | (simp; done) | (simp; omega)))))
              clear hb s1
              go_wp2_with fail
              go_roundw
              case rel => exact ⟨k + 1, by omega, by go_num, HST.out, Hw3.out⟩
              case measure => simp [intOf]; omega
        · have hd0 : decide ((0 : Int) < (k : Int)) = true := decide_eq_true (by omega)
          have hd9 : decide (0 < k) = true := decide_eq_true (by omega)
          obtain ⟨tb', to', hA, htb', d0, _, _⟩ := (HT.out.below (HWA.out.trans (HBW.out.mono hwa))).tr_at (k := k - 1) (by omega)
          cases hA
          have i0 : (0 : Int) ≤ (k : Int) - 1 := by omega
          have i1 : (k : Int) - 1 < (t.length : Int) := by omega
          have i2 : ((k : Int) - 1).toNat = k - 1 := by omega
          have hpv : t.getD (k - 1) (0, 0, 0) = t[k - 1] := by simp [show k - 1 < t.length by omega]
          obtain ⟨pv, hpe⟩ : ∃ pv, t[k - 1].1 = pv := ⟨_, rfl⟩
          rw [hpv, hpe] at HBAD HOK
          rw [hpe] at d0
          have hkb : (k == 0) = false := by simpa using hk0
          rw [hkb] at HBAD HOK
          clear hpv hpe hkb hk0
          by_cases hp : t1 ≤ pv
          · have hd1 : decide (t1 ≤ pv) = true := decide_eq_true hp
            have HPF : decide (pv < t1) = false := decide_eq_false (by omega)
            have HNO : Hid (v = 92 ∧ l = []) := HBAD.out (by simp [HPF])
            go_wp2_with fail
            refine wp_region_bw2 (by kernel_rfl) (by kernel_rfl) (fun hbwc => ?_)
            repeat (go_big_quiet_step ((go_at_call 38; exact bwSame (swithin_ _ _ _ _))))
            refine wpQuiet_nil ?_
            clear hbwc
            intro w3 hb
            have Hw3 := Lib.hid (HBW.out.trans (Below.trans (by (repeat (first | exact Below.refl _ _ | assumption | refine below_drewN ?_ _ | refine Below.drew ?_ | refine Below.setCell ?_ (by first | omega | (simp; done) | (simp; omega)) _ | refine Below.alloc ?_ (by first | omega | (simp; done) | (simp; omega)) _))) (hb.mono (by first | omega | (simp; done) | (simp; omega)))))
            clear hb s1
            go_wp2_with fail
            go_ret2
            exact (show FitOut v l w _ _ from by rw [HNO.out.1, HNO.out.2]; exact FitOut.none 92 (HWA.out.trans (Hw3.out.mono hwa)))
          · have hd1 : decide (t1 ≤ pv) = false := decide_eq_false hp
            have HP : decide (pv < t1) = true := decide_eq_true (by omega)
            cases b2 : inB t2 (-1099511627776) 1099511627776 with
            | false =>
              have HNO : Hid (v = 92 ∧ l = []) := HBAD.out (by simp [b2])
              go_wp2_with fail
              refine wp_region_bw2 (by kernel_rfl) (by kernel_rfl) (fun hbwc => ?_)
              repeat (go_big_quiet_step ((go_at_call 38; exact bwSame (swithin_ _ _ _ _))))
              refine wpQuiet_nil ?_
              clear hbwc
              intro w3 hb
              have Hw3 := Lib.hid (HBW.out.trans (Below.trans (by (repeat (first | exact Below.refl _ _ | assumption | refine below_drewN ?_ _ | refine Below.drew ?_ | refine Below.setCell ?_ (by first | omega | (simp; done) | (simp; omega)) _ | refine Below.alloc ?_ (by first | omega | (simp; done) | (simp; omega)) _))) (hb.mono (by first | omega | (simp; done) | (simp; omega)))))
              clear hb s1
              go_wp2_with fail
              go_ret2
              exact (show FitOut v l w _ _ from by rw [HNO.out.1, HNO.out.2]; exact FitOut.none 92 (HWA.out.trans (Hw3.out.mono hwa)))
            | true =>
              cases b3 : inB t3 0 65536 with
              | false =>
                have HNO : Hid (v = 92 ∧ l = []) := HBAD.out (by simp [b3])
                go_wp2_with fail
                refine wp_region_bw2 (by kernel_rfl) (by kernel_rfl) (fun hbwc => ?_)
                repeat (go_big_quiet_step ((go_at_call 38; exact bwSame (swithin_ _ _ _ _))))
                refine wpQuiet_nil ?_
                clear hbwc
                intro w3 hb
                have Hw3 := Lib.hid (HBW.out.trans (Below.trans (by (repeat (first | exact Below.refl _ _ | assumption | refine below_drewN ?_ _ | refine Below.drew ?_ | refine Below.setCell ?_ (by first | omega | (simp; done) | (simp; omega)) _ | refine Below.alloc ?_ (by first | omega | (simp; done) | (simp; omega)) _))) (hb.mono (by first | omega | (simp; done) | (simp; omega)))))
                clear hb s1
                go_wp2_with fail
                go_ret2
                exact (show FitOut v l w _ _ from by rw [HNO.out.1, HNO.out.2]; exact FitOut.none 92 (HWA.out.trans (Hw3.out.mono hwa)))
              | true =>
                have HST : Hid (arrN L.length t (k + 1) = true) := HOK.out (by rw [b1, HP, b2, b3]; rfl)
                clear HP
                go_wp2_with fail
                refine wp_region_bw2 (by kernel_rfl) (by kernel_rfl) (fun hbwc => ?_)
                repeat (go_big_quiet_step ((go_at_call 38; exact bwSame (swithin_ _ _ _ _))))
                refine wpQuiet_nil ?_
                clear hbwc
                intro w3 hb
                have Hw3 := Lib.hid (HBW.out.trans (Below.trans (by (repeat (first | exact Below.refl _ _ | assumption | refine below_drewN ?_ _ | refine Below.drew ?_ | refine Below.setCell ?_ (by first | omega | (simp; done) | (simp; omega)) _ | refine Below.alloc ?_ (by first | omega | (simp; done) | (simp; omega)) _))) (hb.mono (by first | omega | (simp; done) | (simp; omega)))))
                clear hb s1
                go_wp2_with fail
                go_roundw
                case rel => exact ⟨k + 1, by omega, by go_num, HST.out, Hw3.out⟩
                case measure => simp [intOf]; omega
    · obtain rfl : k = t.length := by omega
      have g0 := (HBW.out.cell (p := ⟨w.heap.size, 0, none⟩) (show w.heap.size < wa.heap.size by omega)).trans HK0.out
      have g1 := (HBW.out.cell (p := ⟨w1.heap.size, 0, none⟩) (show w1.heap.size < wa.heap.size by omega)).trans HK1.out
      by_cases h2 : 2 ≤ t.length
      · have hd : decide (t.length < 2) = false := decide_eq_false (by omega)
        have hd' : decide ((t.length : Int) < 2) = false := decide_eq_false (by omega)
        have hv0 : v = 0 := by rw [← HV.out]; unfold arrB; rw [hN.out, decide_eq_true h2]; rfl
        have HLE : Hid (l = pickL (fitB (sites L) t) (cellsL n N)) := by show _ = _; rw [← HR.out, hv0, if_pos rfl]
        obtain rfl : v = 0 := hv0
        have HAO := Lib.hid (arr_ok hN.out)
        clear h2
        go_wp2_with fail
        refine (chosen_ n hn1 hn8 N HN.out 40 #[.pointer (some ⟨w.heap.size, 0, none⟩), .pointer (some ⟨w1.heap.size, 0, none⟩)] (fitB (sites L) t) wr (enters_of Tryz.func40 (by kernel_rfl) rfl) ?_).mono ?_
        · intro d W hW
          have hz := hW.size
          have := fitsC_ (sites L) t B S cb cs d w.heap.size w1.heap.size W (by rw [show (sites L).length = L.length by simp [sites]]; exact ((HSA.out.below (HBW.out.mono (by omega))).below (hW.mono (by omega))).more (by omega)) (((HT.out.below (HWA.out.trans (HBW.out.mono hwa))).below (hW.mono (by omega))).more (by omega))
            (by rw [show (sites L).length = L.length by simp [sites]]; exact HAO.out) (by omega) (by omega) ((hW.cell (p := ⟨w.heap.size, 0, none⟩) (show w.heap.size < wr.heap.size by omega)).trans g0) (by rw [show (sites L).length = L.length by simp [sites]]; exact (hW.cell (p := ⟨w1.heap.size, 0, none⟩) (show w1.heap.size < wr.heap.size by omega)).trans g1)
          exact this
        · rintro e w3 ⟨s, rfl, ho, hb⟩
          have HO3 := Lib.hid ho
          have HB3 := Lib.hid hb
          clear ho hb g0 g1
          go_wp2_with fail
          go_ret2
          exact ⟨s, rfl, by rw [HLE.out]; exact own_le HO3.out (by omega), HWA.out.trans ((HBW.out.mono hwa).trans (HB3.out.mono (by omega)))⟩
      · have hd : decide (t.length < 2) = true := decide_eq_true (by omega)
        have hd' : decide ((t.length : Int) < 2) = true := decide_eq_true (by omega)
        have hv9 : v = 92 := by rw [← HV.out]; unfold arrB; rw [decide_eq_false h2, Bool.and_false]; rfl
        obtain rfl : l = [] := by rw [← HR.out, hv9]; rfl
        obtain rfl : v = 92 := hv9
        clear h2
        go_wp2_with fail
        go_ret2
        exact FitOut.none 92 (HWA.out.trans (HBW.out.mono hwa))
/-- Fits: which error, and which cells. -/
theorem fits_ (L : List NSi) (A B : Option Addr) (c cb : Nat) (n : Int) (t : List Trg) (w : World) (hL : Sl w w.heap.size 10 A L.length c (nsCells L)) (hm : ∀ x ∈ L, x.nm.size ≤ maxLen) (hT : Sl w w.heap.size 3 B t.length cb (trCells t))
    (N : Nat) (hN : (N : Int) = 6 * (n * n)) :
    Calls Tryz.prog 9 #[.slice A L.length c, .int .i64 n, .slice B t.length cb] w (FitOut (fitG L n t) (fitL L n t N) w) := by
  by_cases hg : netG L n = 0
  · exact fits_t L A B c cb n t w hg hL hm hT N hN _ (by unfold fitG; rw [hg]; rfl) _ rfl
  · have e : fitG L n t = netG L n := by unfold fitG; rw [if_neg (by simpa using hg)]
    have e2 : fitL L n t N = [] := by unfold fitL; rw [if_neg (by rw [e]; exact hg)]
    rw [e, e2]
    exact fits_e L A B c cb n t w _ rfl hg hL hm (Nat.le_trans hT.cap hT.max)
end Go.Proofs.YtmpbhngjkbidcaaGreatDoor
