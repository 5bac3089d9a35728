/-
  The walks of the specification's weighed and gaining.
-/
import Derived.Test.YtcclfhdglhbpcaaGreatDoorW47
import Derived.Test.YtcclfhdglhbpcaaGreatDoorW45
namespace Go.Proofs.YtcclfhdglhbpcaaGreatDoor
open Go.RowKit Al

def istep (many : Int) (l : List Int) (i : Nat) : Bool := inB (l.getD i 0) 0 (many - 1) && (i == 0 || decide (l.getD (i - 1) 0 < l.getD i 0))
def incI (many : Int) (l : List Int) (k : Nat) : Bool := (List.range k).all (istep many l)
theorem incI_succ (many : Int) (l : List Int) (k : Nat) : incI many l (k + 1) = (incI many l k && istep many l k) := by
  unfold incI
  rw [List.range_succ, List.all_append]
  simp
theorem incI_no {many : Int} {l : List Int} {k : Nat} (hk : k < l.length) (h : istep many l k = false) : incI many l l.length = false := by
  unfold incI
  rw [List.all_eq_false]
  exact ⟨k, by simpa using hk, by rw [h]; simp⟩
theorem incB_iff {many : Int} : ∀ {last : Int} {l : List Int}, incB many last l = true ↔ ∀ i, i < l.length → (last :: l).getD i 0 < l.getD i 0 ∧ l.getD i 0 < many
  | last, [] => by simp [incB]
  | last, c :: t => by
    rw [incB, Bool.and_eq_true, incB_iff]
    simp only [Bool.not_eq_true', Bool.or_eq_false_iff, decide_eq_false_iff_not]
    constructor
    · rintro ⟨⟨h1, h2⟩, h3⟩ i hi
      cases i with
      | zero => simp only [List.getD_cons_zero]; omega
      | succ i => simp only [List.getD_cons_succ]; exact h3 i (by simpa using hi)
    · intro h
      have h0 := h 0 (by simp)
      simp only [List.getD_cons_zero] at h0
      refine ⟨by omega, fun i hi => ?_⟩
      have := h (i + 1) (by simpa using hi)
      simpa only [List.getD_cons_succ] using this
theorem incB_is (many : Int) (l : List Int) : incB many (-1) l = incI many l l.length := by
  rw [Bool.eq_iff_iff]
  constructor
  · intro h
    have hin := incB_in h
    rw [incB_iff] at h
    unfold incI
    rw [List.all_eq_true]
    intro i hi
    have hi := List.mem_range.1 hi
    have h1 := h i hi
    have h2 := hin (l.getD i 0) (by rw [show l.getD i 0 = l[i] by simp [hi]]; exact List.getElem_mem hi)
    unfold istep
    rw [inB_true.2 ⟨by omega, by omega⟩, Bool.true_and]
    cases i with
    | zero => rfl
    | succ i =>
      rw [List.getD_cons_succ] at h1
      rw [Nat.add_sub_cancel, decide_eq_true h1.1, Bool.or_true]
  · intro h
    unfold incI at h
    rw [List.all_eq_true] at h
    rw [incB_iff]
    intro i hi
    have h1 := h i (List.mem_range.2 hi)
    unfold istep at h1
    rw [Bool.and_eq_true] at h1
    have h2 := inB_true.1 h1.1
    refine ⟨?_, by omega⟩
    cases i with
    | zero => rw [List.getD_cons_zero]; omega
    | succ i =>
      have h3 := h1.2
      rw [show (i + 1 == 0) = false by simp, Bool.false_or, Nat.add_sub_cancel] at h3
      rw [List.getD_cons_succ]
      exact of_decide_eq_true h3
theorem badW_at {ws : List Int} {k : Nat} (hk : k < ws.length) (h : inB ws[k] 0 1000 = false) : badW ws = true := by
  unfold badW
  rw [List.any_eq_true]
  exact ⟨_, List.getElem_mem hk, by rw [h]; rfl⟩
theorem badW_all {ws : List Int} (h : ∀ k (hk : k < ws.length), inB ws[k] 0 1000 = true) : badW ws = false := by
  unfold badW
  rw [List.any_eq_false]
  intro x hx
  obtain ⟨k, hk, rfl⟩ := List.getElem_of_mem hx
  rw [h k hk]
  decide
def RwRel (ws : List Int) (w : World) (i : Value) (wr : World) : Prop := ∃ k : Nat, k ≤ ws.length ∧ i = .int .i64 (k : Int) ∧ Hid (∀ j (hj : j < ws.length), j < k → inB ws[j] 0 1000 = true) ∧ Hid (Below w.heap.size w wr)
def RvRel9 (many : Int) (sm : List Int) (w : World) (i : Value) (wr : World) : Prop := ∃ k : Nat, k ≤ sm.length ∧ i = .int .i64 (k : Int) ∧ Hid (incI many sm k = true) ∧ Hid (Below w.heap.size w wr)
set_option maxRecDepth 100000 in
set_option maxHeartbeats 8000000 in
theorem rweighed_ (n : Int) (h1 : 1 ≤ n) (h8 : n ≤ 8) (N : Nat) (hN : (N : Int) = 6 * (n * n)) (ws sm : List Int) (A B : Option Addr) (c d : Nat) (w : World) (hw : Sl w w.heap.size 1 A ws.length c (ints ws)) (hs : Sl w w.heap.size 1 B sm.length d (ints sm)) :
    Calls Tryz.prog 113 #[.int .i64 n, .slice A ws.length c, .slice B sm.length d] w fun e w' => e = .returned (.bool (weighedB n ws sm)) ∧ Below w.heap.size w w' := by
  have hwl : ws.length ≤ maxLen := Nat.le_trans hw.cap hw.max
  have hsl : sm.length ≤ maxLen := Nat.le_trans hs.cap hs.max
  unfold maxLen at hwl hsl
  obtain ⟨k1, k2, k3⟩ := six_in h1 h8
  have hnn : (6 : Int) * n * n = (N : Int) := by rw [Int.mul_assoc, hN]
  have HC : Hid (∀ W, Calls Tryz.prog 54 #[.int .i64 n] W fun e w' => e = .returned (.int .i64 (N : Int)) ∧ W = w') := fun W => by rw [hN]; exact rcells_ n h1 h8 W
  have s1 : IntKind.i64.wrap ((N : Int) - 1) = (N : Int) - 1 := IntWalk.i64_in _ (by omega)
  have hwd : weighedB n ws sm = (decide ((ws.length : Int) = (N : Int)) && !badW ws && incI (N : Int) sm sm.length) := by
    unfold weighedB
    rw [hnn, incB_is]
  obtain ⟨res, hres⟩ : ∃ b, weighedB n ws sm = b := ⟨_, rfl⟩
  rw [hres] at hwd ⊢
  have HWD := Lib.hid hwd
  have HW := Lib.hid hw
  have HS := Lib.hid hs
  clear hw hs k1 k2 k3 hnn hwd hres hN h1 h8
  go_enter Tryz.func113, Tryz.ntmps113
  go_wp2_with fail
  go_loopw [7] (fun i wr => RwRel ws w i wr) (fun i _ => ws.length - (intOf i).toNat)
  case atStart => exact ⟨0, Nat.zero_le _, rfl, fun j _ h => absurd h (Nat.not_lt_zero j), Below.refl _ _⟩
  case round =>
    obtain ⟨k, hk, rfl, HA, HB⟩ := hrel
    have hsz := HB.out.size
    by_cases hlt : k < ws.length
    · obtain ⟨tb, tof, rfl, htb, c0⟩ := (HW.out.below HB.out).int_at hlt hlt
      have hlt' : (k : Int) < (ws.length : Int) := by omega
      have HBD := Lib.hid (fun h => badW_at (ws := ws) hlt h)
      have HAS : Hid (inB ws[k] 0 1000 = true → ∀ j (hj : j < ws.length), j < k + 1 → inB ws[j] 0 1000 = true) := fun h j hj hjk => by
        by_cases he : j = k
        · subst he; exact h
        · exact HA.out j hj (by omega)
      obtain ⟨v, hv⟩ : ∃ v, ws[k] = v := ⟨_, rfl⟩
      rw [hv] at c0 HBD HAS
      clear hv
      cases b1 : inB v 0 1000 with
      | false =>
        have HNO : Hid (res = false) := by show _ = _; rw [HWD.out, HBD.out b1]; simp
        go_wp2_with (go_at_call 29; refine (rInB_ _ _ _ _).mono ?_; rintro e w' ⟨rfl, rfl⟩; rw [b1])
        go_ret
        exact ⟨ret_bool HNO.out.symm, HB.out⟩
      | true =>
        have HST := Lib.hid (HAS.out b1)
        go_wp2_with (go_at_call 29; refine (rInB_ _ _ _ _).mono ?_; rintro e w' ⟨rfl, rfl⟩; rw [b1])
        go_roundw
        case rel => exact ⟨k + 1, by omega, by go_num, HST, HB⟩
        case measure => simp [intOf]; omega
    · obtain rfl : k = ws.length := by omega
      have HNB : Hid (badW ws = false) := badW_all (fun j hj => HA.out j hj hj)
      have HB0 := Lib.hid HB.out
      have hw0 : w.heap.size ≤ wr.heap.size := HB.out.size
      clear HB hsz HA
      obtain ⟨w0, hw0'⟩ : ∃ W, wr = W := ⟨_, rfl⟩
      rw [hw0'] at HB0 hw0 ⊢
      clear hw0'
      go_wp2_with fail
      go_loopw [8] (fun i wr => RvRel9 (N : Int) sm w i wr) (fun i _ => sm.length - (intOf i).toNat)
      case atStart => exact ⟨0, Nat.zero_le _, rfl, rfl, HB0⟩
      case round =>
        obtain ⟨k, hk, rfl, HI, HB⟩ := hrel
        have hsz := HB.out.size
        by_cases hlt : k < sm.length
        · obtain ⟨tb, tof, rfl, htb, c0⟩ := (HS.out.below HB.out).int_at hlt hlt
          have hlt' : (k : Int) < (sm.length : Int) := by omega
          have htb2 : tb < wr.heap.size := by omega
          have hst : istep (N : Int) sm k = (inB sm[k] 0 ((N : Int) - 1) && (k == 0 || decide (sm.getD (k - 1) 0 < sm[k]))) := by unfold istep; rw [show sm.getD k 0 = sm[k] by simp [hlt]]
          have HBAD : Hid ((inB sm[k] 0 ((N : Int) - 1) && (k == 0 || decide (sm.getD (k - 1) 0 < sm[k]))) = false → res = false) := fun h => by rw [HWD.out, incI_no hlt (by rw [hst]; exact h)]; simp
          have HOK : Hid ((inB sm[k] 0 ((N : Int) - 1) && (k == 0 || decide (sm.getD (k - 1) 0 < sm[k]))) = true → incI (N : Int) sm (k + 1) = true) := fun h => by rw [incI_succ, HI.out, hst, h]; rfl
          obtain ⟨v, hv⟩ : ∃ v, sm[k] = v := ⟨_, rfl⟩
          rw [hv] at c0 HBAD HOK
          clear hst hv
          cases b1 : inB v 0 ((N : Int) - 1) with
          | false =>
            have HNO : Hid (res = false) := HBAD.out (by rw [b1]; rfl)
            go_wp2_with fail
            refine wp_region_bw2 (by kernel_rfl) (by kernel_rfl) (fun hbwc => ?_)
            repeat (go_big_quiet_step ((first | (go_at_call 29; exact bwSame (rInB_ _ _ _ _)) | (go_at_call 54; (with_reducible exact bwSame (HC.out _))))))
            refine wpQuiet_nil ?_
            clear hbwc
            intro w3 hb
            have Hw3 := Lib.hid (HB.out.trans (Below.mono (Below.trans (by (repeat (first | exact Below.refl _ _ | assumption | refine below_drewN ?_ _ | refine Below.drew ?_ | refine Below.setCell ?_ (by first | omega | (simp; done) | (simp; omega)) _ | refine Below.alloc ?_ (by first | omega | (simp; done) | (simp; omega)) _))) (hb.mono (by first | omega | (simp; done) | (simp; omega)))) hsz))
            clear hb
            go_wp2_with fail
            go_ret
            exact ⟨ret_bool HNO.out.symm, Hw3.out⟩
          | true =>
            rw [b1] at HBAD HOK
            by_cases hk0 : k = 0
            · have hd0 : decide ((0 : Int) < (k : Int)) = false := decide_eq_false (by omega)
              have hd9 : decide (0 < k) = false := decide_eq_false (by omega)
              have HST : Hid (incI (N : Int) sm (k + 1) = true) := HOK.out (by simp [hk0])
              clear hk0
              go_wp2_with fail
              refine wp_region_bw2 (by kernel_rfl) (by kernel_rfl) (fun hbwc => ?_)
              repeat (go_big_quiet_step ((first | (go_at_call 29; exact bwSame (rInB_ _ _ _ _)) | (go_at_call 54; (with_reducible exact bwSame (HC.out _))))))
              refine wpQuiet_nil ?_
              clear hbwc
              intro w3 hb
              have Hw3 := Lib.hid (HB.out.trans (Below.mono (Below.trans (by (repeat (first | exact Below.refl _ _ | assumption | refine below_drewN ?_ _ | refine Below.drew ?_ | refine Below.setCell ?_ (by first | omega | (simp; done) | (simp; omega)) _ | refine Below.alloc ?_ (by first | omega | (simp; done) | (simp; omega)) _))) (hb.mono (by first | omega | (simp; done) | (simp; omega)))) hsz))
              clear hb
              go_wp2_with fail
              go_roundw
              case rel => exact ⟨k + 1, by omega, by go_num, HST, Hw3⟩
              case measure => simp [intOf]; omega
            · have hd0 : decide ((0 : Int) < (k : Int)) = true := decide_eq_true (by omega)
              have hd9 : decide (0 < k) = true := decide_eq_true (by omega)
              obtain ⟨tb', tof', hA, htb', d0⟩ := (HS.out.below HB.out).int_at (k := k - 1) (by omega) (by omega)
              cases hA
              have i0 : (0 : Int) ≤ (k : Int) - 1 := by omega
              have i1 : (k : Int) - 1 < (sm.length : Int) := by omega
              have i2 : ((k : Int) - 1).toNat = k - 1 := by omega
              have hpv : sm.getD (k - 1) 0 = sm[k - 1] := by simp [show k - 1 < sm.length by omega]
              obtain ⟨pv, hpe⟩ : ∃ pv, sm[k - 1]'(by omega) = pv := ⟨_, rfl⟩
              rw [hpv, hpe] at HBAD HOK
              rw [hpe] at d0
              have hkb : (k == 0) = false := by simpa using hk0
              rw [hkb] at HBAD HOK
              clear hpv hpe hkb hk0
              by_cases hp : v ≤ pv
              · have hd1 : decide (v ≤ pv) = true := decide_eq_true hp
                have HPF := Lib.hid (show decide (pv < v) = false from decide_eq_false (by omega))
                have HNO : Hid (res = false) := HBAD.out (by rw [HPF.out]; rfl)
                go_wp2_with fail
                refine wp_region_bw2 (by kernel_rfl) (by kernel_rfl) (fun hbwc => ?_)
                repeat (go_big_quiet_step ((first | (go_at_call 29; exact bwSame (rInB_ _ _ _ _)) | (go_at_call 54; (with_reducible exact bwSame (HC.out _))))))
                refine wpQuiet_nil ?_
                clear hbwc
                intro w3 hb
                have Hw3 := Lib.hid (HB.out.trans (Below.mono (Below.trans (by (repeat (first | exact Below.refl _ _ | assumption | refine below_drewN ?_ _ | refine Below.drew ?_ | refine Below.setCell ?_ (by first | omega | (simp; done) | (simp; omega)) _ | refine Below.alloc ?_ (by first | omega | (simp; done) | (simp; omega)) _))) (hb.mono (by first | omega | (simp; done) | (simp; omega)))) hsz))
                clear hb
                go_wp2_with fail
                go_ret
                exact ⟨ret_bool HNO.out.symm, Hw3.out⟩
              · have hd1 : decide (v ≤ pv) = false := decide_eq_false hp
                have HPF := Lib.hid (show decide (pv < v) = true from decide_eq_true (by omega))
                have HST : Hid (incI (N : Int) sm (k + 1) = true) := HOK.out (by rw [HPF.out]; rfl)
                go_wp2_with fail
                refine wp_region_bw2 (by kernel_rfl) (by kernel_rfl) (fun hbwc => ?_)
                repeat (go_big_quiet_step ((first | (go_at_call 29; exact bwSame (rInB_ _ _ _ _)) | (go_at_call 54; (with_reducible exact bwSame (HC.out _))))))
                refine wpQuiet_nil ?_
                clear hbwc
                intro w3 hb
                have Hw3 := Lib.hid (HB.out.trans (Below.mono (Below.trans (by (repeat (first | exact Below.refl _ _ | assumption | refine below_drewN ?_ _ | refine Below.drew ?_ | refine Below.setCell ?_ (by first | omega | (simp; done) | (simp; omega)) _ | refine Below.alloc ?_ (by first | omega | (simp; done) | (simp; omega)) _))) (hb.mono (by first | omega | (simp; done) | (simp; omega)))) hsz))
                clear hb
                go_wp2_with fail
                go_roundw
                case rel => exact ⟨k + 1, by omega, by go_num, HST, Hw3⟩
                case measure => simp [intOf]; omega
        · obtain rfl : k = sm.length := by omega
          by_cases he : ws.length = N
          · have hd : ((ws.length : Int) == (N : Int)) = true := by simp; omega
            have HR : Hid (res = true) := by show _ = _; rw [HWD.out, HNB.out, HI.out, decide_eq_true (show (ws.length : Int) = (N : Int) by omega)]; rfl
            clear he
            go_wp2_with (go_at_call 54; refine (HC.out _).mono ?_; rintro e w' ⟨rfl, rfl⟩)
            go_ret
            exact ⟨by rw [HR.out]; first | rfl | simp [hd], HB.out⟩
          · have hd : ((ws.length : Int) == (N : Int)) = false := by simp; omega
            have HR : Hid (res = false) := by show _ = _; rw [HWD.out, decide_eq_false (show ¬ (ws.length : Int) = (N : Int) by omega)]; rfl
            go_wp2_with (go_at_call 54; refine (HC.out _).mono ?_; rintro e w' ⟨rfl, rfl⟩)
            go_ret
            exact ⟨by rw [HR.out]; first | rfl | simp [hd, he], HB.out⟩
set_option maxRecDepth 100000 in
theorem rgaining_ (L : List Scp) (LA : Option Addr) (lc : Nat) (n : Int) (N : Nat) (hN : (N : Int) = 6 * (n * n)) (ws sm : List Int) (A B : Option Addr) (c d : Nat) (w : World)
    (hL : Sl w w.heap.size 6 LA L.length lc (scsC L)) (hz : ∀ x ∈ L, Sl w w.heap.size 3 x.ZA x.zs.length x.zc (zsC x.zs)) (hs' : ∀ x ∈ L, x.nm.size ≤ maxLen) (hw : Sl w w.heap.size 1 A ws.length c (ints ws)) (hs : Sl w w.heap.size 1 B sm.length d (ints sm)) :
    Calls Tryz.prog 74 #[.slice LA L.length lc, .int .i64 n, .slice A ws.length c, .slice B sm.length d] w fun e w' => e = .returned (.int .i64 (gE L n ws sm)) ∧ Below w.heap.size w w' := by
  have HSC := Lib.hid (rscoped_ L LA lc n w hL hz hs')
  by_cases hg : gW L n = 0
  · obtain ⟨hb, h1, h8⟩ := gW_ok hg
    rw [hg] at HSC
    have HWE := Lib.hid (fun W (hW : Below w.heap.size w W) => rweighed_ n h1 h8 N hN ws sm A B c d W ((hw.below hW).more hW.size) ((hs.below hW).more hW.size))
    have hge : gE L n ws sm = if weighedB n ws sm then 0 else 93 := by unfold gE; rw [hg]; rfl
    have HGE := Lib.hid hge
    obtain ⟨q, hq⟩ : ∃ b, weighedB n ws sm = b := ⟨_, rfl⟩
    rw [hq] at HWE HGE
    clear hL hz hs' hw hs hg hb hge hq
    cases q with
    | true =>
      go_enter Tryz.func74, Tryz.ntmps74
      go_wp2_with fail
      refine HSC.out.mono ?_
      rintro e w1 ⟨rfl, hb⟩
      have HB := Lib.hid hb
      clear hb
      go_wp2_with fail
      refine (HWE.out _ HB.out).mono ?_
      rintro e w2 ⟨rfl, hb⟩
      have HB2 := Lib.hid (Below.tr HB.out hb)
      clear hb
      go_wp2_with fail
      go_ret
      exact ⟨by rw [HGE.out]; rfl, HB2.out⟩
    | false =>
      go_enter Tryz.func74, Tryz.ntmps74
      go_wp2_with fail
      refine HSC.out.mono ?_
      rintro e w1 ⟨rfl, hb⟩
      have HB := Lib.hid hb
      clear hb
      go_wp2_with fail
      refine (HWE.out _ HB.out).mono ?_
      rintro e w2 ⟨rfl, hb⟩
      have HB2 := Lib.hid (Below.tr HB.out hb)
      clear hb
      go_wp2_with fail
      go_ret
      exact ⟨by rw [HGE.out]; rfl, HB2.out⟩
  · have hge : gE L n ws sm = gW L n := by unfold gE; rw [if_neg (by simpa using hg)]
    rw [hge]
    obtain ⟨v, hv⟩ : ∃ v, gW L n = v := ⟨_, rfl⟩
    rw [hv] at HSC hg ⊢
    have hnz : (v != 0) = true := by simpa using hg
    clear hL hz hs' hw hs hv hge
    go_enter Tryz.func74, Tryz.ntmps74
    go_wp2_with fail
    refine HSC.out.mono ?_
    rintro e w1 ⟨rfl, hb⟩
    have HB := Lib.hid hb
    clear hb
    go_wp2_with fail
    go_ret
    exact ⟨rfl, HB.out⟩
end Go.Proofs.YtcclfhdglhbpcaaGreatDoor
