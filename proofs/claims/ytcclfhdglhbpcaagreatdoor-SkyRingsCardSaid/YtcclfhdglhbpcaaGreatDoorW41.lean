/-
  The walk of the specification's arrivals.
-/
import Derived.Test.YtcclfhdglhbpcaaGreatDoorW40
import Derived.Test.YtcclfhdglhbpcaaGreatDoorW33
import Derived.Test.YtcclfhdglhbpcaaGreatDoorW25
namespace Go.Proofs.YtcclfhdglhbpcaaGreatDoor
open Go.RowKit Al Ring9

def RaRel (m : Nat) (t : List Trg) (w : World) (i : Value) (wr : World) : Prop := ∃ k : Nat, k ≤ t.length ∧ i = .int .i64 (k : Int) ∧ Hid (arrN m t k = true) ∧ Hid (Below w.heap.size w wr)
set_option maxRecDepth 100000 in
set_option maxHeartbeats 8000000 in
theorem rarrivals_ (L : List NSi) (A B : Option Addr) (c cb : Nat) (t : List Trg) (w : World) (hl : L.length ≤ 6) (hT : Sl w w.heap.size 3 B t.length cb (trCells t)) :
    Calls Tryz.prog 58 #[.slice A L.length c, .slice B t.length cb] w fun e w' => e = .returned (.bool (arrB L.length t)) ∧ Below w.heap.size w w' := by
  have hlt9 : t.length ≤ maxLen := Nat.le_trans hT.cap hT.max
  unfold maxLen at hlt9
  have HT := Lib.hid hT
  obtain ⟨ar, har⟩ : ∃ b, arrB L.length t = b := ⟨_, rfl⟩
  have HA := Lib.hid har
  have s1 : IntKind.i64.wrap ((L.length : Int) - 1) = (L.length : Int) - 1 := IntWalk.i64_in _ (by omega)
  rw [har]
  clear hT har
  go_enter Tryz.func58, Tryz.ntmps58
  go_wp2_with fail
  go_loopw [5] (fun i wr => RaRel L.length t w i wr) (fun i _ => t.length - (intOf i).toNat)
  case atStart => exact ⟨0, Nat.zero_le _, rfl, rfl, Below.refl _ _⟩
  case round =>
    obtain ⟨k, hk, rfl, HN, HB⟩ := hrel
    have hsz := HB.out.size
    by_cases hlt : k < t.length
    · obtain ⟨tb, tof, rfl, htb, c0, c1, c2⟩ := (HT.out.below HB.out).tr_at hlt
      have hstp : arrStep L.length t k = (inB t[k].1 0 ((L.length : Int) - 1) && ((k == 0 || decide ((t.getD (k - 1) (0, 0, 0)).1 < t[k].1)) && (inB t[k].2.1 (-1099511627776) 1099511627776 && inB t[k].2.2 0 65536))) := by unfold arrStep; rw [show t.getD k (0, 0, 0) = t[k] by simp [hlt]]
      have HBAD : Hid ((inB t[k].1 0 ((L.length : Int) - 1) && ((k == 0 || decide ((t.getD (k - 1) (0, 0, 0)).1 < t[k].1)) && (inB t[k].2.1 (-1099511627776) 1099511627776 && inB t[k].2.2 0 65536))) = false → ar = false) := fun h => by rw [← HA.out, arrB_no hlt (by rw [hstp]; exact h)]
      have HOK : Hid ((inB t[k].1 0 ((L.length : Int) - 1) && ((k == 0 || decide ((t.getD (k - 1) (0, 0, 0)).1 < t[k].1)) && (inB t[k].2.1 (-1099511627776) 1099511627776 && inB t[k].2.2 0 65536))) = true → arrN L.length t (k + 1) = true) := fun h => by rw [arrN_succ, HN.out, hstp, h]; rfl
      clear hstp
      have hlt' : (k : Int) < (t.length : Int) := by omega
      have htb2 : tb < wr.heap.size := by omega
      obtain ⟨t1, t2, t3, ht⟩ : ∃ a b c, t[k] = (a, b, c) := ⟨_, _, _, rfl⟩
      rw [ht] at c0 c1 c2 HBAD HOK
      simp only at c0 c1 c2 HBAD HOK
      clear ht
      cases b1 : inB t1 0 ((L.length : Int) - 1) with
      | false =>
        have HNO : Hid (ar = false) := HBAD.out (by simp [b1])
        go_wp2_with fail
        refine wp_region_bw2 (by kernel_rfl) (by kernel_rfl) (fun hbwc => ?_)
        repeat (go_big_quiet_step ((go_at_call 29; exact bwSame (rInB_ _ _ _ _))))
        refine wpQuiet_nil ?_
        clear hbwc
        intro w3 hb
        have Hw3 := Lib.hid (HB.out.trans (Below.mono (Below.trans (by (repeat (first | exact Below.refl _ _ | assumption | refine below_drewN ?_ _ | refine Below.drew ?_ | refine Below.setCell ?_ (by first | omega | (simp; done) | (simp; omega)) _ | refine Below.alloc ?_ (by first | omega | (simp; done) | (simp; omega)) _))) (hb.mono (by first | omega | (simp; done) | (simp; omega)))) hsz))
        clear hb s1
        go_wp2_with fail
        go_ret
        exact ⟨ret_bool HNO.out.symm, Hw3.out⟩
      | true =>
        cases b2 : inB t2 (-1099511627776) 1099511627776 with
        | false =>
          have HNO : Hid (ar = false) := HBAD.out (by simp [b2])
          go_wp2_with fail
          refine wp_region_bw2 (by kernel_rfl) (by kernel_rfl) (fun hbwc => ?_)
          repeat (go_big_quiet_step ((go_at_call 29; exact bwSame (rInB_ _ _ _ _))))
          refine wpQuiet_nil ?_
          clear hbwc
          intro w3 hb
          have Hw3 := Lib.hid (HB.out.trans (Below.mono (Below.trans (by (repeat (first | exact Below.refl _ _ | assumption | refine below_drewN ?_ _ | refine Below.drew ?_ | refine Below.setCell ?_ (by first | omega | (simp; done) | (simp; omega)) _ | refine Below.alloc ?_ (by first | omega | (simp; done) | (simp; omega)) _))) (hb.mono (by first | omega | (simp; done) | (simp; omega)))) hsz))
          clear hb s1
          go_wp2_with fail
          go_ret
          exact ⟨ret_bool HNO.out.symm, Hw3.out⟩
        | true =>
          cases b3 : inB t3 0 65536 with
          | false =>
            have HNO : Hid (ar = false) := HBAD.out (by simp [b3])
            go_wp2_with fail
            refine wp_region_bw2 (by kernel_rfl) (by kernel_rfl) (fun hbwc => ?_)
            repeat (go_big_quiet_step ((go_at_call 29; exact bwSame (rInB_ _ _ _ _))))
            refine wpQuiet_nil ?_
            clear hbwc
            intro w3 hb
            have Hw3 := Lib.hid (HB.out.trans (Below.mono (Below.trans (by (repeat (first | exact Below.refl _ _ | assumption | refine below_drewN ?_ _ | refine Below.drew ?_ | refine Below.setCell ?_ (by first | omega | (simp; done) | (simp; omega)) _ | refine Below.alloc ?_ (by first | omega | (simp; done) | (simp; omega)) _))) (hb.mono (by first | omega | (simp; done) | (simp; omega)))) hsz))
            clear hb s1
            go_wp2_with fail
            go_ret
            exact ⟨ret_bool HNO.out.symm, Hw3.out⟩
          | true =>
            by_cases hk0 : k = 0
            · have hd0 : decide ((0 : Int) < (k : Int)) = false := decide_eq_false (by omega)
              have hd9 : decide (0 < k) = false := decide_eq_false (by omega)
              have HP : (k == 0 || decide ((t.getD (k - 1) (0, 0, 0)).1 < t1)) = true := by simp [hk0]
              have HPH := Lib.hid HP
              clear hk0 HP
              have HST : Hid (arrN L.length t (k + 1) = true) := HOK.out (by rw [b1, HPH.out, b2, b3]; rfl)
              go_wp2_with fail
              refine wp_region_bw2 (by kernel_rfl) (by kernel_rfl) (fun hbwc => ?_)
              repeat (go_big_quiet_step ((go_at_call 29; exact bwSame (rInB_ _ _ _ _))))
              refine wpQuiet_nil ?_
              clear hbwc
              intro w3 hb
              have Hw3 := Lib.hid (HB.out.trans (Below.mono (Below.trans (by (repeat (first | exact Below.refl _ _ | assumption | refine below_drewN ?_ _ | refine Below.drew ?_ | refine Below.setCell ?_ (by first | omega | (simp; done) | (simp; omega)) _ | refine Below.alloc ?_ (by first | omega | (simp; done) | (simp; omega)) _))) (hb.mono (by first | omega | (simp; done) | (simp; omega)))) hsz))
              clear hb s1
              go_wp2_with fail
              go_roundw
              case rel => exact ⟨k + 1, by omega, by go_num, HST, Hw3⟩
              case measure => simp [intOf]; omega
            · have hd0 : decide ((0 : Int) < (k : Int)) = true := decide_eq_true (by omega)
              have hd9 : decide (0 < k) = true := decide_eq_true (by omega)
              obtain ⟨tb', tof', hA, htb', d0, _, _⟩ := (HT.out.below HB.out).tr_at (k := k - 1) (by omega)
              cases hA
              have i0 : (0 : Int) ≤ (k : Int) - 1 := by omega
              have i1 : (k : Int) - 1 < (t.length : Int) := by omega
              have i2 : ((k : Int) - 1).toNat = k - 1 := by omega
              have hpv : t.getD (k - 1) (0, 0, 0) = t[k - 1] := by simp [show k - 1 < t.length by omega]
              obtain ⟨pv, hpe⟩ : ∃ pv, t[k - 1].1 = pv := ⟨_, rfl⟩
              rw [hpv, hpe] at HBAD HOK
              rw [hpe] at d0
              have hkb : (k == 0) = false := by simpa using hk0
              rw [hkb] at HBAD HOK
              clear hpv hpe hkb hk0
              by_cases hp : t1 ≤ pv
              · have hd1 : decide (t1 ≤ pv) = true := decide_eq_true hp
                have HPF : decide (pv < t1) = false := decide_eq_false (by omega)
                have HPG := Lib.hid HPF
                clear HPF
                have HNO : Hid (ar = false) := HBAD.out (by simp [HPG.out])
                go_wp2_with fail
                refine wp_region_bw2 (by kernel_rfl) (by kernel_rfl) (fun hbwc => ?_)
                repeat (go_big_quiet_step ((go_at_call 29; exact bwSame (rInB_ _ _ _ _))))
                refine wpQuiet_nil ?_
                clear hbwc
                intro w3 hb
                have Hw3 := Lib.hid (HB.out.trans (Below.mono (Below.trans (by (repeat (first | exact Below.refl _ _ | assumption | refine below_drewN ?_ _ | refine Below.drew ?_ | refine Below.setCell ?_ (by first | omega | (simp; done) | (simp; omega)) _ | refine Below.alloc ?_ (by first | omega | (simp; done) | (simp; omega)) _))) (hb.mono (by first | omega | (simp; done) | (simp; omega)))) hsz))
                clear hb s1
                go_wp2_with fail
                go_ret
                exact ⟨ret_bool HNO.out.symm, Hw3.out⟩
              · have hd1 : decide (t1 ≤ pv) = false := decide_eq_false hp
                have HP : Hid (decide (pv < t1) = true) := decide_eq_true (by omega)
                have HST : Hid (arrN L.length t (k + 1) = true) := HOK.out (by rw [b1, HP.out, b2, b3]; rfl)
                go_wp2_with fail
                refine wp_region_bw2 (by kernel_rfl) (by kernel_rfl) (fun hbwc => ?_)
                repeat (go_big_quiet_step ((go_at_call 29; exact bwSame (rInB_ _ _ _ _))))
                refine wpQuiet_nil ?_
                clear hbwc
                intro w3 hb
                have Hw3 := Lib.hid (HB.out.trans (Below.mono (Below.trans (by (repeat (first | exact Below.refl _ _ | assumption | refine below_drewN ?_ _ | refine Below.drew ?_ | refine Below.setCell ?_ (by first | omega | (simp; done) | (simp; omega)) _ | refine Below.alloc ?_ (by first | omega | (simp; done) | (simp; omega)) _))) (hb.mono (by first | omega | (simp; done) | (simp; omega)))) hsz))
                clear hb s1
                go_wp2_with fail
                go_roundw
                case rel => exact ⟨k + 1, by omega, by go_num, HST, Hw3⟩
                case measure => simp [intOf]; omega
    · obtain rfl : k = t.length := by omega
      by_cases h2 : 2 ≤ t.length
      · have hd : decide (2 ≤ t.length) = true := decide_eq_true h2
        have hd' : decide ((2 : Int) ≤ (t.length : Int)) = true := decide_eq_true (by omega)
        have HV : Hid (ar = true) := by show _ = _; rw [← HA.out]; unfold arrB; rw [HN.out, hd]; rfl
        go_wp2_with fail
        go_ret
        exact ⟨ret_bool (by first | exact HV.out.symm | (rw [HV.out]; simp; omega)), HB.out⟩
      · have hd : decide (2 ≤ t.length) = false := decide_eq_false h2
        have hd' : decide ((2 : Int) ≤ (t.length : Int)) = false := decide_eq_false (by omega)
        have HV : Hid (ar = false) := by show _ = _; rw [← HA.out]; unfold arrB; rw [hd, Bool.and_false]
        go_wp2_with fail
        go_ret
        exact ⟨ret_bool (by first | exact HV.out.symm | (rw [HV.out]; simp; omega)), HB.out⟩
end Go.Proofs.YtcclfhdglhbpcaaGreatDoor

/-
  The walk of the specification's Fits.
-/
namespace Go.Proofs.YtcclfhdglhbpcaaGreatDoor
open Go.RowKit Al Ring9

def pairS (S : List Site) (d : V3) (x y : Trg) : Bool := onS (siteAt S y.1).p (siteAt S x.1).p d (x.2.1 - y.2.1) (x.2.2 + y.2.2)
def allS (S : List Site) (t : List Trg) (d : V3) (P : List (Nat × Nat)) : Bool := P.all fun p => pairS S d (t.getD p.1 (0, 0, 0)) (t.getD p.2 (0, 0, 0))
theorem allS_snoc (S : List Site) (t : List Trg) (d : V3) (P : List (Nat × Nat)) (p : Nat × Nat) : allS S t d (P ++ [p]) = (allS S t d P && pairS S d (t.getD p.1 (0, 0, 0)) (t.getD p.2 (0, 0, 0))) := by
  unfold allS
  rw [List.all_append]
  simp
theorem pair_same {L : List NSi} {n : Int} {t : List Trg} (hg : netG L n = 0) (ha : arrB L.length t = true) {d : V3} (hd : Dir9 d) {i k : Nat} (hi : i < t.length) (hk : k < i) : pairB (sites L) d t[i] (t[k]'(by omega)) = pairS (sites L) d t[i] (t[k]'(by omega)) := by
  have a := (arr_parts ha).2.1 _ (List.getElem_mem hi)
  have b := (arr_parts ha).2.1 _ (List.getElem_mem (show k < t.length by omega))
  have a0 := a.s0
  have a1 := a.s1
  have a2 := a.k0
  have a3 := a.k1
  have a4 := a.t0
  have a5 := a.t1
  have b0 := b.s0
  have b1 := b.s1
  have b2 := b.k0
  have b3 := b.k1
  have b4 := b.t0
  have b5 := b.t1
  have hS : (sites L).length = L.length := by simp [sites]
  obtain ⟨p, h5, _, e5⟩ := siteAt_int (S := sites L) a0 (by omega)
  obtain ⟨q, h6, _, e6⟩ := siteAt_int (S := sites L) b0 (by omega)
  unfold pairB pairS
  rw [e5, e6]
  exact on_same (net_site hg (List.getElem_mem h6)) (net_site hg (List.getElem_mem h5)) hd (by omega) (by omega) (by omega) (by omega)
theorem fit_all {L : List NSi} {n : Int} {t : List Trg} (hg : netG L n = 0) (ha : arrB L.length t = true) {d : V3} (hd : Dir9 d) : fitB (sites L) t d = allS (sites L) t d (pairsL t.length) := by
  rw [Bool.eq_iff_iff, fitB_iff]
  unfold allS
  rw [List.all_eq_true]
  constructor
  · rintro h ⟨i, k⟩ hp
    obtain ⟨hi, hk⟩ := pairsL_mem.1 hp
    simp only
    rw [show t.getD i (0, 0, 0) = t[i] by simp [hi], show t.getD k (0, 0, 0) = t[k]'(by omega) by simp [show k < t.length by omega], ← pair_same hg ha hd hi hk]
    exact h i hi k hk
  · intro h i hi k hk
    have h1 := h (i, k) (pairsL_mem.2 ⟨hi, hk⟩)
    simp only at h1
    rw [show t.getD i (0, 0, 0) = t[i] by simp [hi], show t.getD k (0, 0, 0) = t[k]'(by omega) by simp [show k < t.length by omega], ← pair_same hg ha hd hi hk] at h1
    exact h1
def FxRel (S : List Site) (t : List Trg) (d : V3) (w : World) (o i : Value) (wr : World) : Prop := ∃ k : Nat, k ≤ t.length ∧ i = .int .i64 (k : Int) ∧ o = .bool (allS S t d (pairsL k)) ∧ Hid (Below w.heap.size w wr)
def FyRel (S : List Site) (t : List Trg) (d : V3) (i : Nat) (w : World) (o j : Value) (wr : World) : Prop := ∃ k : Nat, k ≤ i ∧ j = .int .i64 (k : Int) ∧ o = .bool (allS S t d (pairsN i k)) ∧ Hid (Below w.heap.size w wr)
set_option maxRecDepth 100000 in
set_option maxHeartbeats 16000000 in
theorem rFits_ok (L : List NSi) (A B : Option Addr) (c cb : Nat) (n : Int) (t : List Trg) (w : World) (hg : netG L n = 0) (ha : arrB L.length t = true) (hL : Sl w w.heap.size 10 A L.length c (nsCells L)) (hm : ∀ x ∈ L, x.nm.size ≤ maxLen)
    (hT : Sl w w.heap.size 3 B t.length cb (trCells t)) (N : Nat) (hN : (N : Int) = 6 * (n * n)) :
    Calls Tryz.prog 16 #[.slice A L.length c, .int .i64 n, .slice B t.length cb] w (FitOut 0 (pickL (fun d => allS (sites L) t d (pairsL t.length)) (cellsL n N)) w) := by
  obtain ⟨i0, hi, hz0, hz1, hz2⟩ := info_parts cInfo
  obtain ⟨hl2, hl6, hn1, hn8⟩ := netG_ok hg
  obtain ⟨k1, k2, k3⟩ := six_in hn1 hn8
  have HPL := Lib.hid (rplaced_ L A c n 0 w hL hm)
  rw [celG_zero, hg] at HPL
  have HAR := Lib.hid (fun W (hW : Below w.heap.size w W) => rarrivals_ L A B c cb t W hl6 ((hT.below hW).more hW.size))
  rw [ha] at HAR
  have HC : Hid (∀ W, Calls Tryz.prog 54 #[.int .i64 n] W fun e w' => e = .returned (.int .i64 (N : Int)) ∧ W = w') := fun W => by rw [hN]; exact rcells_ n hn1 hn8 W
  have HDC := Lib.hid (fun (k : Nat) (hk : k < N) W => rdirection_ n (k : Int) hn1 hn8 (by omega) (by omega) W)
  have HD9 := Lib.hid (fun (k : Nat) (hk : k < N) => dir9 (show thereB n k = true by unfold thereB; rw [inB_true.2 ⟨hn1, hn8⟩, inB_true.2 ⟨by omega, by omega⟩]; rfl))
  have hN1 : N ≤ 384 := by omega
  have ht6 : t.length ≤ 6 := by have := arr_few ha; omega
  have HL := Lib.hid hL
  have HT := Lib.hid hT
  have HG := Lib.hid hg
  have HA := Lib.hid ha
  obtain ⟨is, his⟩ : ∃ is, (fun d => allS (sites L) t d (pairsL t.length)) = is := ⟨_, rfl⟩
  have HIS : Hid (∀ d, allS (sites L) t d (pairsL t.length) = is d) := fun d => by rw [← his]
  rw [his]
  clear hg ha hL hm hT hN his k1 k2 k3
  go_enter Tryz.func16, Tryz.ntmps16
  go_wp2_with fail
  refine HPL.out.mono ?_
  rintro e w0 ⟨rfl, hb⟩
  have HB0 := Lib.hid hb
  clear hb
  go_wp2_with fail
  refine (HAR.out w0 HB0.out).mono ?_
  rintro e w1 ⟨rfl, hb⟩
  have HB1 := Lib.hid (Below.tr HB0.out hb)
  have hwl : w.heap.size ≤ w1.heap.size := HB1.out.size
  clear hb
  go_wp2_with fail
  go_loopw [9, 10] (fun o i wr => PkRel is n N w1 o i wr) (fun _ i _ => N - (intOf i).toNat)
  case atStart => exact ⟨0, none, 0, Nat.zero_le _, rfl, rfl, World.ownsRow_nil _ _ _ _, Below.refl _ _⟩
  case round =>
    obtain ⟨k, D, dc, hk, rfl, rfl, HO, HB⟩ := hrel
    have hsz := HB.out.size
    have hpl := pick_len is n k
    by_cases hlt : k < N
    · have HDK := Lib.hid (HDC.out k hlt)
      have hd9 := HD9.out k hlt
      obtain ⟨r, hr⟩ : ∃ r, is (dirV n k) = r := ⟨_, rfl⟩
      have HPS := Lib.hid (pick_snoc hr)
      have his := HIS.out (dirV n k)
      rw [hr] at his
      obtain ⟨d, hdv⟩ : ∃ d, dirV n k = d := ⟨_, rfl⟩
      rw [hdv] at HDK hd9 his
      have HDI := Lib.hid hd9
      have HIR := Lib.hid his
      have hlt' : (k : Int) < (N : Int) := by omega
      have hwr : w.heap.size ≤ wr.heap.size := by omega
      have HWR := Lib.hid (HB1.out.trans (HB.out.mono hwl))
      obtain ⟨pl, hpe⟩ : ∃ l, pickL is (cellsL n k) = l := ⟨_, rfl⟩
      rw [hpe] at HO HPS hpl ⊢
      clear hr hdv hd9 his hpe
      go_wp2_with (go_at_call 54; refine (HC.out _).mono ?_; rintro e w' ⟨rfl, rfl⟩)
      obtain ⟨wq, hwq⟩ : ∃ W, wr = W := ⟨_, rfl⟩
      rw [hwq] at HO HB HWR hwr hsz ⊢
      clear hwq
      go_loopw [11, 12] (fun o i wr => FxRel (sites L) t d wq o i wr) (fun _ i _ => t.length - (intOf i).toNat)
      case atStart => exact ⟨0, Nat.zero_le _, rfl, rfl, Below.refl _ _⟩
      case round =>
        obtain ⟨i, hi', rfl, rfl, HBI⟩ := hrel
        have hszi := HBI.out.size
        by_cases hit : i < t.length
        · have hit' : (i : Int) < (t.length : Int) := by omega
          have hz : allS (sites L) t d (pairsN i 0) = allS (sites L) t d (pairsL i) := by rw [pairsN_zero]
          go_wp2_with fail
          go_loopw [11, 13] (fun o j wr => FyRel (sites L) t d i wq o j wr) (fun _ j _ => i - (intOf j).toNat)
          case atStart => exact ⟨0, Nat.zero_le _, rfl, by rw [hz], HBI⟩
          case round =>
            obtain ⟨j, hj, rfl, rfl, HBJ⟩ := hrel
            have hszj := HBJ.out.size
            by_cases hji : j < i
            · have HS := Lib.hid (show allS (sites L) t d (pairsN i (j + 1)) = (allS (sites L) t d (pairsN i j) && pairS (sites L) d (t.getD i (0, 0, 0)) (t.getD j (0, 0, 0))) by rw [pairsN_succ, allS_snoc])
              obtain ⟨q, hq⟩ : ∃ q, allS (sites L) t d (pairsN i j) = q := ⟨_, rfl⟩
              rw [hq] at HS ⊢
              have hj2 : (j : Int) < (i : Int) := by omega
              clear hq
              cases q with
              | false =>
                go_wp2_with fail
                refine wp_region_bw2 (by kernel_rfl) (by kernel_rfl) (fun hbwc => ?_)
                repeat (go_big_quiet_step (fail))
                refine wpQuiet_nil ?_
                clear hbwc
                intro w8 hb
                have HB8 := Lib.hid (HBJ.out.trans (((show Below wr.heap.size wr _ from (by repeat (first | exact Below.refl _ _ | assumption | refine below_drewN ?_ _ | refine Below.drew ?_ | refine Below.setCell ?_ (by first | omega | (simp; done) | (simp; omega)) _ | refine Below.alloc ?_ (by first | omega | (simp; done) | (simp; omega)) _))).trans (hb.mono (by first | omega | (simp; done) | (simp; omega)))).mono hszj))
                clear hb
                go_wp2_with fail
                go_roundw
                case rel => exact ⟨j + 1, by omega, by go_num, by rw [HS.out]; rfl, HB8⟩
                case measure => simp [intOf]; omega
              | true =>
                have HWJ := Lib.hid (HWR.out.trans (HBJ.out.mono hwr))
                obtain ⟨tb, tof, rfl, htb, e0, e1, e2⟩ := (HT.out.below HWJ.out).tr_at hit
                obtain ⟨tb', tof', hA, htb', f0, f1, f2⟩ := (HT.out.below HWJ.out).tr_at (k := j) (by omega)
                cases hA
                have oka := (arr_parts HA.out).2.1 _ (List.getElem_mem hit)
                have okb := (arr_parts HA.out).2.1 _ (List.getElem_mem (show j < t.length by omega))
                have hgi : t.getD i (0, 0, 0) = t[i] := by simp [hit]
                have hgj : t.getD j (0, 0, 0) = t[j] := by simp [show j < t.length by omega]
                rw [hgi, hgj] at HS
                have a0 := oka.s0
                have a1 := oka.s1
                have a4 := oka.t0
                have a5 := oka.t1
                have a6 := oka.k0
                have a7 := oka.k1
                have b0 := okb.s0
                have b1 := okb.s1
                have b4 := okb.t0
                have b5 := okb.t1
                have b6 := okb.k0
                have b7 := okb.k1
                obtain ⟨x1, x2, x3, hx⟩ : ∃ a b c, t[i] = (a, b, c) := ⟨_, _, _, rfl⟩
                obtain ⟨y1, y2, y3, hy⟩ : ∃ a b c, t[j]'(by omega) = (a, b, c) := ⟨_, _, _, rfl⟩
                rw [hx] at e0 e1 e2 HS a0 a1 a4 a5 a6 a7
                rw [hy] at f0 f1 f2 HS b0 b1 b4 b5 b6 b7
                simp only at e0 e1 e2 f0 f1 f2 a0 a1 a4 a5 a6 a7 b0 b1 b4 b5 b6 b7
                obtain ⟨si, rfl⟩ : ∃ m : Nat, x1 = (m : Int) := ⟨x1.toNat, by omega⟩
                obtain ⟨sj, rfl⟩ : ∃ m : Nat, y1 = (m : Int) := ⟨y1.toNat, by omega⟩
                have hsi : si < L.length := by omega
                have hsj : sj < L.length := by omega
                have hSl : (sites L).length = L.length := by simp [sites]
                have eI : siteAt (sites L) (si : Int) = (L[si]'hsi).s := by rw [siteAt_is (by omega)]; simp [sites]
                have eJ : siteAt (sites L) (sj : Int) = (L[sj]'hsj).s := by rw [siteAt_is (by omega)]; simp [sites]
                have hps : pairS (sites L) d ((si : Int), x2, x3) ((sj : Int), y2, y3) = onS (L[sj]'hsj).s.p (L[si]'hsi).s.p d (x2 - y2) (x3 + y3) := by unfold pairS; simp only; rw [eI, eJ]
                rw [hps] at HS
                have HONK := Lib.hid (fun W => ron_ (L[sj]'hsj) (L[si]'hsi) d (x2 - y2) (x3 + y3) (net_site HG.out (show (L[sj]'hsj).s ∈ sites L from List.mem_map_of_mem (List.getElem_mem hsj))) (net_site HG.out (show (L[si]'hsi).s ∈ sites L from List.mem_map_of_mem (List.getElem_mem hsi))) HDI.out (by omega) (by omega) (by omega) (by omega) W)
                obtain ⟨o, ho⟩ : ∃ b, onS (L[sj]'hsj).s.p (L[si]'hsi).s.p d (x2 - y2) (x3 + y3) = b := ⟨_, rfl⟩
                rw [ho] at HS HONK
                obtain ⟨lb, lo, rfl, hlb, c0, c1, c2, c3, c4, c5, c6, c7, c8, c9⟩ := (HL.out.below HWJ.out).ns_at hsj
                obtain ⟨lb', lo', hA, hlb', d0, d1, d2, d3, d4, d5, d6, d7, d8, d9⟩ := (HL.out.below HWJ.out).ns_at hsi
                cases hA
                obtain ⟨X, hX⟩ : ∃ X, L[sj]'hsj = X := ⟨_, rfl⟩
                obtain ⟨Y, hY⟩ : ∃ Y, L[si]'hsi = Y := ⟨_, rfl⟩
                rw [hX] at c0 c1 c2 c3 c4 c5 c6 c7 c8 c9 HONK
                rw [hY] at d0 d1 d2 d3 d4 d5 d6 d7 d8 d9 HONK
                obtain ⟨nx, ⟨⟨p1, p2, p3⟩, ⟨g1, g2, g3⟩, ⟨h1, h2, h3⟩⟩⟩ := X
                obtain ⟨ny, ⟨⟨q1, q2, q3⟩, ⟨m1, m2, m3⟩, ⟨o1, o2, o3⟩⟩⟩ := Y
                obtain ⟨v1, v2, v3'⟩ := d
                simp only at c0 c1 c2 c3 c4 c5 c6 c7 c8 c9 d0 d1 d2 d3 d4 d5 d6 d7 d8 d9
                have htb2 : tb < wr.heap.size := by have := HWJ.out.size; omega
                have hlb2 : lb < wr.heap.size := by have := HWJ.out.size; omega
                have j0 : (0 : Int) ≤ (j : Int) := by omega
                have j1 : (j : Int) < (t.length : Int) := by omega
                have i1 : (0 : Int) ≤ (i : Int) := by omega
                clear oka okb hgi hgj hx hy eI eJ hps ho hX hY hSl
                go_wp2_with fail
                refine wp_region_bw2 (by kernel_rfl) (by kernel_rfl) (fun hbwc => ?_)
                repeat (go_big_quiet_step ((first | (with_reducible exact bwCall (HDK.out _)) | (with_reducible exact bwCall (HONK.out _)))))
                refine wpQuiet_nil ?_
                clear hbwc
                intro w8 hb
                have HB8 := Lib.hid (HBJ.out.trans (((show Below wr.heap.size wr _ from (by repeat (first | exact Below.refl _ _ | assumption | refine below_drewN ?_ _ | refine Below.drew ?_ | refine Below.setCell ?_ (by first | omega | (simp; done) | (simp; omega)) _ | refine Below.alloc ?_ (by first | omega | (simp; done) | (simp; omega)) _))).trans (hb.mono (by first | omega | (simp; done) | (simp; omega)))).mono hszj))
                clear hb c0 c1 c2 c3 c4 c5 c6 c7 c8 c9 d0 d1 d2 d3 d4 d5 d6 d7 d8 d9 e0 e1 e2 f0 f1 f2
                go_wp2_with fail
                go_roundw
                case rel => exact ⟨j + 1, by omega, by go_num, by rw [HS.out]; rfl, HB8⟩
                case measure => simp [intOf]; omega
            · obtain rfl : j = i := by omega
              have hpe : allS (sites L) t d (pairsN j j) = allS (sites L) t d (pairsL (j + 1)) := by rw [pairsL_succ]
              have HPE := Lib.hid hpe
              clear hpe
              go_wp2_with fail
              go_roundw
              case rel => exact ⟨j + 1, by omega, by go_num, by rw [HPE.out], HBJ⟩
              case measure => simp [intOf]; omega
        · obtain rfl : i = t.length := by omega
          rw [HIR.out]
          have HBX := Lib.hid (HB.out.trans (HBI.out.mono hsz))
          have HOX := Lib.hid (own_below HO.out (Nat.le_refl _) HBI.out)
          have hzx := HBX.out.size
          clear HBI hszi HO
          cases r with
          | false =>
            go_wp2_with fail
            go_roundw
            case rel => exact ⟨k + 1, D, dc, by omega, by go_num, by rw [HPS.out]; simp, Lib.hid (by rw [HPS.out]; simpa using HOX.out), HBX⟩
            case measure => simp [intOf]; omega
          | true =>
            have HOY := Lib.hid (own_below HOX.out (Nat.le_refl _) ((Below.refl wr.heap.size wr).alloc (Nat.le_refl _) (.cells #[.int .i64 (k : Int)] 3)))
            go_wp2_with (at_builtin; go_must (refine wpList_append_lies _ rfl _ _ 27 rfl w1.heap.size 3 i0 (.int .i64 0) 1 8 Tryz.underlying27 hi hz0 hz1 hz2 rfl (by decide) (.slice D pl.length dc) pl.length _ rfl HOY.out _ 1 1 [.int .i64 (k : Int)] rfl rfl (World.news_of_block (heap_alloc_new wr _)) (by intro u hu; rw [List.mem_singleton.1 hu]; rfl) (by decide) (by unfold maxLen; omega) (by omega) (by simp; omega) _ rfl ?_); intro g cap w6 hown6 hg6 hat6 hlt6; have z6 := hg6.size; (try simp at z6))
            go_roundw
            case rel =>
              have e5 : pl ++ (if true = true then [(k : Int)] else []) = pl ++ [(k : Int)] := rfl
              refine ⟨k + 1, some ⟨g, 0, none⟩, cap, by omega, by go_num, by rw [HPS.out, e5, List.length_append]; rfl, Lib.hid ?_, Lib.hid ((HBX.out.alloc (by omega) _).grown hg6 (by simp; omega) (fun g h => (own_lt HOX.out h).1))⟩
              rw [HPS.out, e5, List.length_append, show ints (pl ++ [(k : Int)]) = ints pl ++ [.int .i64 (k : Int)] by simp [ints]]
              exact hown6
            case measure => simp [intOf]; omega
    · obtain rfl : k = N := by omega
      go_wp2_with (go_at_call 54; refine (HC.out _).mono ?_; rintro e w' ⟨rfl, rfl⟩)
      go_ret2
      exact ⟨_, rfl, own_le HO.out hwl, HB1.out.trans (HB.out.mono hwl)⟩
set_option maxRecDepth 100000 in
/-- The specification's Fits answers as the program's. -/
theorem rFits_ (L : List NSi) (A B : Option Addr) (c cb : Nat) (n : Int) (t : List Trg) (w : World) (hL : Sl w w.heap.size 10 A L.length c (nsCells L)) (hm : ∀ x ∈ L, x.nm.size ≤ maxLen) (hT : Sl w w.heap.size 3 B t.length cb (trCells t))
    (N : Nat) (hN : (N : Int) = 6 * (n * n)) :
    Calls Tryz.prog 16 #[.slice A L.length c, .int .i64 n, .slice B t.length cb] w (FitOut (fitG L n t) (fitL L n t N) w) := by
  by_cases hg : netG L n = 0
  · cases ha : arrB L.length t with
    | true =>
      have e := fitG_ok hg ha
      have e2 := fitL_ok (N := N) e
      obtain ⟨_, _, h1, h8⟩ := netG_ok hg
      rw [e, e2, pick_congr (is := fitB (sites L) t) (js := fun d => allS (sites L) t d (pairsL t.length))]
      · exact rFits_ok L A B c cb n t w hg ha hL hm hT N hN
      · intro k hk
        exact fit_all hg ha (dir9 (show thereB n k = true by unfold thereB; rw [inB_true.2 ⟨h1, h8⟩, inB_true.2 ⟨by omega, by omega⟩]; rfl))
    | false =>
      have e : fitG L n t = 92 := by unfold fitG; rw [hg, ha]; rfl
      have e2 : fitL L n t N = [] := by unfold fitL; rw [if_neg (by rw [e]; decide)]
      rw [e, e2]
      have hl6 := (netG_ok hg).2.1
      have HPL := Lib.hid (rplaced_ L A c n 0 w hL hm)
      rw [celG_zero, hg] at HPL
      have HAR := Lib.hid (fun W (hW : Below w.heap.size w W) => rarrivals_ L A B c cb t W hl6 ((hT.below hW).more hW.size))
      rw [ha] at HAR
      clear hL hm hT hg ha e e2
      go_enter Tryz.func16, Tryz.ntmps16
      go_wp2_with fail
      refine HPL.out.mono ?_
      rintro e w0 ⟨rfl, hb⟩
      have HB0 := Lib.hid hb
      clear hb
      go_wp2_with fail
      refine (HAR.out w0 HB0.out).mono ?_
      rintro e w1 ⟨rfl, hb⟩
      have HB1 := Lib.hid (Below.tr HB0.out hb)
      clear hb
      go_wp2_with fail
      go_ret2
      exact FitOut.none 92 HB1.out
  · have e : fitG L n t = netG L n := by unfold fitG; rw [if_neg (by simpa using hg)]
    have e2 : fitL L n t N = [] := by unfold fitL; rw [if_neg (by rw [e]; exact hg)]
    rw [e, e2]
    have HPL := Lib.hid (rplaced_ L A c n 0 w hL hm)
    rw [celG_zero] at HPL
    obtain ⟨v, hv⟩ : ∃ v, netG L n = v := ⟨_, rfl⟩
    rw [hv] at HPL hg ⊢
    have hnz : (v != 0) = true := by simpa using hg
    clear hL hm hT hv e e2
    go_enter Tryz.func16, Tryz.ntmps16
    go_wp2_with fail
    refine HPL.out.mono ?_
    rintro e w1 ⟨rfl, hb⟩
    have HB := Lib.hid hb
    clear hb
    go_wp2_with fail
    go_ret2
    exact FitOut.none v HB.out
end Go.Proofs.YtcclfhdglhbpcaaGreatDoor

/-
  The walk of the law SkyRings.
-/
namespace Go.Proofs.YtcclfhdglhbpcaaGreatDoor
open Go.RowKit Al

/-- A network in a box, and four numbers in the next one. -/
def BxR (W : World) (b : Nat) (lv nv : Value) (r0 r1 r2 r3 : Int) : Prop := (∃ cv, W.heap[b]? = some (.cells #[lv, nv, cv] 24 (0, 0))) ∧ W.heap[b + 1]? = some (.cells #[.int .i64 r0, .int .i64 r1, .int .i64 r2, .int .i64 r3] 25 (0, 0))
section
variable {W W' : World} {b : Nat} {lv nv : Value} {r0 r1 r2 r3 : Int}
theorem BxR.lt (h : BxR W b lv nv r0 r1 r2 r3) : b + 1 < W.heap.size := (Array.getElem?_eq_some_iff.1 h.2).1
theorem BxR.all (h : BxR W b lv nv r0 r1 r2 r3) : W.cell? ⟨b, 0, none⟩ = some lv ∧ W.cell? ⟨b, 1, none⟩ = some nv ∧ W.cell? ⟨b + 1, 0, none⟩ = some (.int .i64 r0) ∧ W.cell? ⟨b + 1, 1, none⟩ = some (.int .i64 r1) ∧ W.cell? ⟨b + 1, 2, none⟩ = some (.int .i64 r2) ∧ W.cell? ⟨b + 1, 3, none⟩ = some (.int .i64 r3) := by
  obtain ⟨⟨_, e⟩, f⟩ := h
  refine ⟨?_, ?_, ?_, ?_, ?_, ?_⟩ <;> simp [World.cell?, e, f]
theorem BxR.below (h : BxR W b lv nv r0 r1 r2 r3) (g : Below W.heap.size W W') : BxR W' b lv nv r0 r1 r2 r3 := let ⟨⟨c, e⟩, f⟩ := h; ⟨⟨c, (g.block b (by have := BxR.lt ⟨⟨c, e⟩, f⟩; omega)).trans e⟩, (g.block (b + 1) (BxR.lt ⟨⟨c, e⟩, f⟩)).trans f⟩
end
set_option maxRecDepth 100000 in
set_option maxHeartbeats 8000000 in
theorem skyRings_ (L : List NSi) (LA TA : Option Addr) (lc tc : Nat) (n cl r0 r1 r2 r3 : Int) (t : List Trg) (w : World) (hM : MxL w) (hL : Sl w w.heap.size 10 LA L.length lc (nsCells L)) (hm : ∀ x ∈ L, x.nm.size ≤ maxLen)
    (hT : Sl w w.heap.size 3 TA t.length tc (trCells t)) :
    Calls Tryz.prog 3 #[.agg #[.slice LA L.length lc, .int .i64 n, .int .i64 cl], .agg #[.int .i64 r0, .int .i64 r1, .int .i64 r2, .int .i64 r3], .slice TA t.length tc] w fun e w' => e = .returned (.bool true) ∧ Below w.heap.size w w' := by
  have HM := Lib.hid hM
  obtain ⟨N, hN⟩ : ∃ N : Nat, (N : Int) = 6 * (n * n) := ⟨(6 * (n * n)).toNat, by have := Ring9.sq_nn n; omega⟩
  have HF1 := Lib.hid (fun W (hW : Below w.heap.size w W) => fits_ L LA TA lc tc n t W ((hL.below hW).more hW.size) hm ((hT.below hW).more hW.size) N hN)
  have HF2 := Lib.hid (fun W (hW : Below w.heap.size w W) => rFits_ L LA TA lc tc n t W ((hL.below hW).more hW.size) hm ((hT.below hW).more hW.size) N hN)
  have HR1 := Lib.hid (fun W (hW : Below w.heap.size w W) => Ring_ L LA lc n r0 r1 r2 r3 W ((hL.below hW).more hW.size) hm N hN)
  have HR2 := Lib.hid (fun W (hW : Below w.heap.size w W) => rRing_ L LA lc n r0 r1 r2 r3 W ((hL.below hW).more hW.size) hm N hN)
  obtain ⟨v, hv⟩ : ∃ v, fitG L n t = v := ⟨_, rfl⟩
  obtain ⟨F, hF⟩ : ∃ l, fitL L n t N = l := ⟨_, rfl⟩
  obtain ⟨u, hu⟩ : ∃ v, rgG L n r0 r1 r2 r3 = v := ⟨_, rfl⟩
  obtain ⟨R, hR⟩ : ∃ l, rgL L n r0 r1 r2 r3 N = l := ⟨_, rfl⟩
  rw [hv, hF] at HF1 HF2
  rw [hu, hR] at HR1 HR2
  clear hM hL hm hT hv hF hu hR hN
  go_enter Tryz.func3, Tryz.ntmps3
  go_wp2_with fail
  have HX : Hid (BxR ((w.alloc (.cells #[.slice LA L.length lc, .int .i64 n, .int .i64 cl] 24)).alloc (.cells #[.int .i64 r0, .int .i64 r1, .int .i64 r2, .int .i64 r3] 25)) w.heap.size (.slice LA L.length lc) (.int .i64 n) r0 r1 r2 r3) := by
    refine ⟨⟨_, ((Below.refl _ _).alloc (Nat.le_refl _) _).block w.heap.size (by simp) |>.trans (heap_alloc_new w _)⟩, ?_⟩
    have h := heap_alloc_new (w.alloc (.cells #[.slice LA L.length lc, .int .i64 n, .int .i64 cl] 24)) (.cells #[.int .i64 r0, .int .i64 r1, .int .i64 r2, .int .i64 r3] 25)
    rw [World.size_alloc] at h
    exact h
  have HBW : Hid (Below w.heap.size w ((w.alloc (.cells #[.slice LA L.length lc, .int .i64 n, .int .i64 cl] 24)).alloc (.cells #[.int .i64 r0, .int .i64 r1, .int .i64 r2, .int .i64 r3] 25))) := (by repeat (first | exact Below.refl _ _ | assumption | refine below_drewN ?_ _ | refine Below.drew ?_ | refine Below.setCell ?_ (by first | omega | (simp; done) | (simp; omega)) _ | refine Below.alloc ?_ (by first | omega | (simp; done) | (simp; omega)) _))
  obtain ⟨wb, hwb⟩ : ∃ wb, (w.alloc (.cells #[.slice LA L.length lc, .int .i64 n, .int .i64 cl] 24)).alloc (.cells #[.int .i64 r0, .int .i64 r1, .int .i64 r2, .int .i64 r3] 25) = wb := ⟨_, rfl⟩
  rw [hwb] at HX HBW ⊢
  have hvl : w.heap.size ≤ wb.heap.size := HBW.out.size
  obtain ⟨vb, hvb⟩ : ∃ b, w.heap.size = b := ⟨_, rfl⟩
  rw [hvb] at HX ⊢
  clear hwb hvb
  refine (HR1.out wb HBW.out).mono ?_
  rintro e w1 ⟨s1, rfl, ho, hb⟩
  obtain ⟨A1, c1, rfl⟩ := own_form ho
  have S1 := Lib.hid (Sl.of_own ho)
  have HB1 := Lib.hid (HBW.out.trans (hb.mono hvl))
  have HX1 := Lib.hid (HX.out.below hb)
  clear ho hb HX
  obtain ⟨x0, x1, y0, y1, y2, y3⟩ := HX1.out.all
  have xl := HX1.out.lt
  have xl' : vb < w1.heap.size := by omega
  go_wp2_with fail
  refine (HR2.out w1 HB1.out).mono ?_
  rintro e w2 ⟨s2, rfl, ho, hb⟩
  obtain ⟨A2, c2, rfl⟩ := own_form ho
  have S2 := Lib.hid (Sl.of_own ho)
  have S1' := Lib.hid (S1.out.bT hb)
  have HB2 := Lib.hid (Below.tr HB1.out hb)
  have HX2 := Lib.hid (HX1.out.below hb)
  clear ho hb x0 x1 y0 y1 y2 y3 xl xl' HX1 S1
  go_wp2_with fail
  refine (SameInts_is R R A1 c1 A2 c2 w2 true (by simp) S1'.out S2.out).mono ?_
  rintro e w3 ⟨rfl, hb⟩
  have HB3 := Lib.hid (Below.tr HB2.out hb)
  have HX3 := Lib.hid (HX2.out.below hb)
  clear hb HX2 S1' S2
  obtain ⟨x0, x1, -⟩ := HX3.out.all
  have xl := HX3.out.lt
  have xl' : vb < w3.heap.size := by omega
  go_wp2_with fail
  refine (HF1.out w3 HB3.out).mono ?_
  rintro e w4 ⟨s4, rfl, ho, hb⟩
  obtain ⟨A4, c4, rfl⟩ := own_form ho
  have S4 := Lib.hid (Sl.of_own ho)
  have HB4 := Lib.hid (Below.tr HB3.out hb)
  have HX4 := Lib.hid (HX3.out.below hb)
  clear ho hb x0 x1 xl xl' HX3
  obtain ⟨x0, x1, -⟩ := HX4.out.all
  have xl := HX4.out.lt
  have xl' : vb < w4.heap.size := by omega
  go_wp2_with fail
  refine (HF2.out w4 HB4.out).mono ?_
  rintro e w5 ⟨s5, rfl, ho, hb⟩
  obtain ⟨A5, c5, rfl⟩ := own_form ho
  have S5 := Lib.hid (Sl.of_own ho)
  have S4' := Lib.hid (S4.out.bT hb)
  have HB5 := Lib.hid (Below.tr HB4.out hb)
  clear ho hb x0 x1 xl xl' HX4 S4
  go_wp2_with fail
  refine (SameInts_is F F A4 c4 A5 c5 w5 true (by simp) S4'.out S5.out).mono ?_
  rintro e w6 ⟨rfl, hb⟩
  have HB6 := Lib.hid (Below.tr HB5.out hb)
  clear hb S4' S5
  go_wp2_with fail
  refine (works_ _ (HM.out.below HB6.out (Nat.le_refl _))).mono ?_
  rintro e w9 ⟨rfl, hb⟩
  have HB9 := Lib.hid (Below.tr HB6.out hb)
  clear hb
  go_wp2_with fail
  go_ret
  exact ⟨rfl, HB9.out⟩
end Go.Proofs.YtcclfhdglhbpcaaGreatDoor
