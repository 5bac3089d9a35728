/-
  The walk of the law's total.
-/
import Derived.Test.YtcclfhdglhbpcaaGreatDoorW48
import Derived.Test.YtcclfhdglhbpcaaGreatDoorW25
namespace Go.Proofs.YtcclfhdglhbpcaaGreatDoor
open Go.RowKit Al

theorem totF_snoc (ws l : List Int) (c : Int) : totF ws (l ++ [c]) = totF ws l + ws.getD c.toNat 0 := by
  unfold totF
  rw [List.map_append, List.sum_append]
  simp
theorem totF_in {ws : List Int} (hw : ∀ x ∈ ws, 0 ≤ x ∧ x ≤ 1000) (l : List Int) : 0 ≤ totF ws l ∧ totF ws l ≤ 1000 * l.length := by
  induction l with
  | nil => exact ⟨Int.le_refl _, by simp [totF]⟩
  | cons c t ih =>
    have h : 0 ≤ ws.getD c.toNat 0 ∧ ws.getD c.toNat 0 ≤ 1000 := by
      rw [List.getD_eq_getElem?_getD]
      cases hg : ws[c.toNat]? with
      | none => simp
      | some y => exact hw y (List.mem_of_getElem? hg)
    have e : totF ws (c :: t) = ws.getD c.toNat 0 + totF ws t := rfl
    rw [e, List.length_cons]
    omega
theorem few_cells {l : List Int} {N : Nat} (h : l.Pairwise (· < ·)) (hin : ∀ x ∈ l, 0 ≤ x ∧ x < (N : Int)) : l.length ≤ N := by
  have h1 : (l.map Int.toNat).Pairwise (· < ·) := by
    rw [List.pairwise_map]
    refine h.imp_of_mem ?_
    intro a b ha hb hab
    have := hin a ha
    have := hin b hb
    omega
  have h2 := (up_sub (K := 0) N 0 (l.map Int.toNat) h1 (fun x hx => by
    obtain ⟨y, hy, rfl⟩ := List.mem_map.1 hx
    have := hin y hy
    omega)).length_le
  simpa using h2
def ToRel (ws l : List Int) (w : World) (o i : Value) (wr : World) : Prop := ∃ k : Nat, k ≤ l.length ∧ i = .int .i64 (k : Int) ∧ o = .int .i64 (totF ws (l.take k)) ∧ Hid (Below w.heap.size w wr)
set_option maxRecDepth 100000 in
theorem total_ (ws sm : List Int) (A B : Option Addr) (c d : Nat) (w : World) (hw : Sl w w.heap.size 1 A ws.length c (ints ws)) (hs : Sl w w.heap.size 1 B sm.length d (ints sm)) (hws : ∀ x ∈ ws, 0 ≤ x ∧ x ≤ 1000) (hin : ∀ x ∈ sm, 0 ≤ x ∧ x < (ws.length : Int)) (hsl : sm.length ≤ 384) :
    Calls Tryz.prog 35 #[.slice A ws.length c, .slice B sm.length d] w fun e w' => e = .returned (.int .i64 (totF ws sm)) ∧ Below w.heap.size w w' := by
  have HW := Lib.hid hw
  have HS := Lib.hid hs
  have HWS := Lib.hid hws
  have HIN := Lib.hid hin
  clear hw hs hws hin
  go_enter Tryz.func35, Tryz.ntmps35
  go_wp2_with fail
  go_loopw [5, 6] (fun o i wr => ToRel ws sm w o i wr) (fun _ i _ => sm.length - (intOf i).toNat)
  case atStart => exact ⟨0, Nat.zero_le _, rfl, rfl, Below.refl _ _⟩
  case round =>
    obtain ⟨k, hk, rfl, rfl, HB⟩ := hrel
    have hsz := HB.out.size
    have htb := totF_in HWS.out (sm.take k)
    rw [List.length_take, Nat.min_eq_left hk] at htb
    by_cases hlt : k < sm.length
    · obtain ⟨tb, tof, rfl, htb', c0⟩ := (HS.out.below HB.out).int_at hlt hlt
      have hF : totF ws (sm.take (k + 1)) = totF ws (sm.take k) + ws.getD sm[k].toNat 0 := by rw [List.take_succ_eq_append_getElem hlt, totF_snoc]
      have hi := HIN.out _ (List.getElem_mem hlt)
      obtain ⟨cv, hcv⟩ : ∃ c, sm[k] = c := ⟨_, rfl⟩
      rw [hcv] at c0 hF hi
      obtain ⟨v, rfl⟩ : ∃ m : Nat, cv = (m : Int) := ⟨cv.toNat, by omega⟩
      have hv : v < ws.length := by omega
      obtain ⟨wb, wof, rfl, hwb, d0⟩ := (HW.out.below HB.out).int_at hv hv
      have hwv := HWS.out _ (List.getElem_mem hv)
      rw [show ws.getD ((v : Int)).toNat 0 = ws[v] by simp [hv]] at hF
      obtain ⟨x, hx⟩ : ∃ x, ws[v] = x := ⟨_, rfl⟩
      rw [hx] at d0 hF hwv
      obtain ⟨S, hS⟩ : ∃ S, totF ws (sm.take k) = S := ⟨_, rfl⟩
      rw [hS] at hF htb ⊢
      have HF := Lib.hid hF
      have hlt' : (k : Int) < (sm.length : Int) := by omega
      have hv' : (v : Int) < (ws.length : Int) := by omega
      have hv0 : (0 : Int) ≤ (v : Int) := by omega
      have hd1 : decide ((0 : Int) ≤ (v : Int)) = true := decide_eq_true hv0
      have hd2 : decide ((v : Int) < (ws.length : Int)) = true := decide_eq_true hv'
      have hb1 : 0 ≤ S + x := by omega
      have hb2 : S + x ≤ 1000000 := by omega
      clear hF hcv hx hS
      go_wp2_with fail
      go_roundw
      case rel => exact ⟨k + 1, by omega, by go_num, by rw [HF.out], HB⟩
      case measure => simp [intOf]; omega
    · obtain rfl : k = sm.length := by omega
      have HE : Hid (totF ws (sm.take sm.length) = totF ws sm) := by show _ = _; rw [List.take_length]
      go_wp2_with fail
      go_ret
      exact ⟨by rw [HE.out]; rfl, HB.out⟩
end Go.Proofs.YtcclfhdglhbpcaaGreatDoor

/-
  The walk of the law SkyHalf.
-/
namespace Go.Proofs.YtcclfhdglhbpcaaGreatDoor
open Go.RowKit Al

theorem sqn9 (n : Int) : 0 ≤ n * n := by
  rcases Int.le_total 0 n with h | h
  · exact Int.mul_nonneg h h
  · exact Int.mul_nonneg_of_nonpos_of_nonpos h h
theorem zs_take {w : World} {B c n : Nat} {A : Option Addr} {l : List V3} (h : Sl w B 3 A l.length c (zsC l)) {i : Nat} (hi : i ≤ l.length) (hn : i = n) : Sl w B 3 A n c (zsC (l.take i)) := by
  subst hn
  refine ⟨by unfold zsC; rw [flat_len v3C 3 (fun _ => rfl), List.length_take]; omega, by have := h.cap; omega, h.max, h.nil_, fun h0 => ?_⟩
  obtain ⟨b, off, e, hb, hc⟩ := h.at_ (by omega)
  refine ⟨b, off, e, hb, fun j u hu => hc j u ?_⟩
  have e2 : zsC l = zsC (l.take i) ++ zsC (l.drop i) := by
    unfold zsC
    rw [← List.flatMap_append, List.take_append_drop]
  rw [e2, List.getElem?_append_left (List.getElem?_eq_some_iff.1 hu).1]
  exact hu
/-- A map in a box. -/
structure MpB (W : World) (b : Nat) (n : Int) (s t : Value) : Prop where
  hp : W.heap[b]? = some (.cells #[.int .i64 n, s, t] 57 (0, 0))
section
variable {W W' : World} {b : Nat} {n : Int} {s t : Value}
theorem MpB.lt (h : MpB W b n s t) : b < W.heap.size := (Array.getElem?_eq_some_iff.1 h.hp).1
theorem MpB.below (h : MpB W b n s t) (g : Below W.heap.size W W') : MpB W' b n s t := ⟨(g.block b h.lt).trans h.hp⟩
theorem MpB.all (h : MpB W b n s t) : W.cell? ⟨b, 0, none⟩ = some (.int .i64 n) ∧ W.cell? ⟨b, 1, none⟩ = some s ∧ W.cell? ⟨b, 2, none⟩ = some t := by
  have e := h.hp
  refine ⟨?_, ?_, ?_⟩ <;> simp [World.cell?, e]
end
def HsRel9 (V : Nat → Int) (m : Nat) (w : World) (o i : Value) (wr : World) : Prop := ∃ k : Nat, k ≤ m ∧ i = .int .i64 ((k : Int) + 1) ∧ o = .int .i64 (V k) ∧ Hid (Below w.heap.size w wr)
set_option maxRecDepth 100000 in
set_option maxHeartbeats 8000000 in
theorem skyHalf_ (L : List Scp) (LA : Option Addr) (lc : Nat) (n : Int) (ws sm : List Int) (A B : Option Addr) (c d : Nat) (p : List V3) (PA : Option Addr) (pc : Nat) (w : World) (hM : MxL w)
    (hL : Sl w w.heap.size 6 LA L.length lc (scsC L)) (hz : ∀ x ∈ L, Sl w w.heap.size 3 x.ZA x.zs.length x.zc (zsC x.zs)) (hs' : ∀ x ∈ L, x.nm.size ≤ maxLen) (hw : Sl w w.heap.size 1 A ws.length c (ints ws)) (hs : Sl w w.heap.size 1 B sm.length d (ints sm)) (hp : Sl w w.heap.size 3 PA p.length pc (zsC p)) :
    Calls Tryz.prog 9 #[.slice LA L.length lc, .agg #[.int .i64 n, .slice A ws.length c, .slice B sm.length d], .slice PA p.length pc] w fun e w' => e = .returned (.bool true) ∧ Below w.heap.size w w' := by
  have HM := Lib.hid hM
  obtain ⟨N, hN⟩ : ∃ N : Nat, (N : Int) = 6 * (n * n) := ⟨(6 * (n * n)).toNat, by have := sqn9 n; omega⟩
  have HP1 := Lib.hid (fun W (hW : Below w.heap.size w W) => Plan_ L LA lc n N hN ws sm A B c d W ((hL.below hW).more hW.size) (fun y hy => ((hz y hy).below hW).more hW.size) hs' ((hw.below hW).more hW.size) ((hs.below hW).more hW.size))
  have HG1 := Lib.hid (fun W (hW : Below w.heap.size w W) (q : List V3) QA qc (hq : Sl W W.heap.size 3 QA q.length qc (zsC q)) => Gain_ L LA lc n N hN ws sm A B c d q QA qc W ((hL.below hW).more hW.size) (fun y hy => ((hz y hy).below hW).more hW.size) hs' ((hw.below hW).more hW.size) ((hs.below hW).more hW.size) hq)
  have HPP := Lib.hid (fun W (hW : Below w.heap.size w W) => (hp.below hW).more hW.size)
  have HX : Hid (MpB (w.alloc (.cells #[.int .i64 n, .slice A ws.length c, .slice B sm.length d] 57)) w.heap.size n (.slice A ws.length c) (.slice B sm.length d)) := ⟨heap_alloc_new w _⟩
  have HBW : Hid (Below w.heap.size w (w.alloc (.cells #[.int .i64 n, .slice A ws.length c, .slice B sm.length d] 57))) := (Below.refl _ _).alloc (Nat.le_refl _) _
  obtain ⟨gv, hgv⟩ : ∃ g, gE L n ws sm = g := ⟨_, rfl⟩
  have hfc : gE L n ws sm = 0 → _ := fun h => half_facts (N := N) hN h
  have HTO : Hid (gE L n ws sm = 0 → ∀ W, Below w.heap.size w W → Calls Tryz.prog 35 #[.slice A ws.length c, .slice B sm.length d] W fun e w' => e = .returned (.int .i64 (totF ws sm)) ∧ Below W.heap.size W w') := fun h W hW => by
    obtain ⟨hg, hwt⟩ := gE_ok h
    obtain ⟨-, h1, h8⟩ := gW_ok hg
    obtain ⟨hwN, -⟩ := lf0_ok h1 h8 hN hwt
    obtain ⟨q1, q2, q3⟩ := weighedB_yes hwt
    have hsq := sq_in h1 h8
    have hin : ∀ x ∈ sm, 0 ≤ x ∧ x < (ws.length : Int) := fun x hx => by have := q3 x hx; omega
    unfold weighedB at hwt
    simp only [Bool.and_eq_true] at hwt
    have := few_cells (incB_up hwt.2) hin
    exact total_ ws sm A B c d W ((hw.below hW).more hW.size) ((hs.below hW).more hW.size) q2 hin (by omega)
  have HPV : Hid (gE L n ws sm ≠ 0 → planP L n N ws sm = ⟨[], [], 0⟩) := fun h => by unfold planP; rw [if_neg h]
  rw [hgv] at HP1 hfc HTO HPV
  obtain ⟨pp, hpp⟩ : ∃ pp, planP L n N ws sm = pp := ⟨_, rfl⟩
  rw [hpp] at HP1 HPV hfc
  obtain ⟨q, hq⟩ : ∃ q, pp.pl = q := ⟨_, rfl⟩
  obtain ⟨g, hg⟩ : ∃ g, pp.g = g := ⟨_, rfl⟩
  have HQE : Hid (gv ≠ 0 → q = [] ∧ g = 0) := fun h => by rw [← hq, ← hg, HPV.out h]; exact ⟨rfl, rfl⟩
  rw [hq, hg] at HP1
  have hfc' := hfc
  rw [hq, hg] at hfc'
  have HFC := Lib.hid hfc'
  clear hM hL hz hs' hw hs hp hgv hfc hfc' hpp hq hg HPV hN
  by_cases h0 : gv = 0
  · subst h0
    obtain ⟨f1, f2, f3, f4, f5, f6, f7, f8, f9⟩ := HFC.out rfl
    have HTT := Lib.hid (HTO.out rfl)
    clear HTO
    obtain ⟨V, hV⟩ : ∃ V : Nat → Int, (fun k => gainV L n N ws sm (q.take k)) = V := ⟨_, rfl⟩
    have HV : Hid (∀ k, gainV L n N ws sm (q.take k) = V k) := fun k => by rw [← hV]
    have HVU : Hid (∀ k, k < q.length → V k < V (k + 1)) := fun k hk => by rw [← HV.out, ← HV.out]; exact f5 k hk
    have HV0 : Hid (V 0 = 0) := by show _ = _; rw [← HV.out]; exact f4
    have HGQ : Hid (∀ k, k ≤ q.length → ∀ W, Below w.heap.size w W → ∀ QA qc, Sl W W.heap.size 3 QA k qc (zsC (q.take k)) → Calls Tryz.prog 30 #[.slice LA L.length lc, .int .i64 n, .slice A ws.length c, .slice B sm.length d, .slice QA k qc] W fun e w' => e = .returned (.tuple #[.int .i64 (V k), .int .i64 0]) ∧ Below W.heap.size W w') := fun k hk W hW QA qc hq => by
      have hl : (q.take k).length = k := by rw [List.length_take]; omega
      have h := HG1.out W hW (q.take k) QA qc (by rw [hl]; exact hq)
      rw [hl, HV.out, f3 k hk] at h
      exact h
    have HGP : Hid (∀ W, Below w.heap.size w W → Calls Tryz.prog 30 #[.slice LA L.length lc, .int .i64 n, .slice A ws.length c, .slice B sm.length d, .slice PA p.length pc] W fun e w' => e = .returned (.tuple #[.int .i64 (gainV L n N ws sm p), .int .i64 (gainE L n N ws sm p)]) ∧ Below W.heap.size W w') := fun W hW => HG1.out W hW p PA pc (HPP.out W hW)
    have hvq : V q.length = g := by rw [← HV.out, List.take_length]; exact f2
    have HVQ := Lib.hid hvq
    have hqn : ∀ k, k ≤ q.length → (k : Int) ≤ V k := by
      intro k
      induction k with
      | zero => intro _; rw [HV0.out]; exact Int.le_refl _
      | succ k ih => intro hk; have := ih (by omega); have := HVU.out k (by omega); omega
    have hq9 : q.length ≤ 384000 := by have := hqn _ (Nat.le_refl _); omega
    clear hqn
    obtain ⟨ov, hov⟩ : ∃ v, gainV L n N ws sm p = v := ⟨_, rfl⟩
    obtain ⟨oe, hoe⟩ : ∃ v, gainE L n N ws sm p = v := ⟨_, rfl⟩
    have HOV : Hid (oe = 0 → ov ≤ 2 * g) := fun h => by rw [← hov]; exact f6 p (by rw [hoe]; exact h)
    rw [hov, hoe] at HGP
    obtain ⟨tt, htt⟩ : ∃ t, totF ws sm = t := ⟨_, rfl⟩
    rw [htt] at HTT f7
    clear f1 f2 f3 f4 f5 f6 hV hvq hov hoe htt HG1 HPP
    go_enter Tryz.func9, Tryz.ntmps9
    go_wp2_with fail
    obtain ⟨wb, hwb⟩ : ∃ W, w.alloc (.cells #[.int .i64 n, .slice A ws.length c, .slice B sm.length d] 57) = W := ⟨_, rfl⟩
    rw [hwb] at HX HBW ⊢
    have hwl : w.heap.size ≤ wb.heap.size := HBW.out.size
    obtain ⟨vb, hvb⟩ : ∃ b, w.heap.size = b := ⟨_, rfl⟩
    rw [hvb] at HX ⊢
    clear hwb hvb
    refine (HP1.out _ HBW.out).mono ?_
    rintro e w1 ⟨QA, qc, rfl, hq, hb⟩
    have HQ := Lib.hid hq
    have HB1 := Lib.hid (HBW.out.trans (hb.mono hwl))
    have HX1 := Lib.hid (HX.out.below hb)
    have hqc := hq.cap
    clear hq hb HX
    obtain ⟨x0, x1, x2⟩ := HX1.out.all
    have xl := HX1.out.lt
    go_wp2_with fail
    have HGL := Lib.hid (HGQ.out q.length (Nat.le_refl _) w1 HB1.out QA qc (zs_take HQ.out (Nat.le_refl _) rfl))
    rw [HVQ.out] at HGL
    refine HGL.out.mono ?_
    rintro e w2 ⟨rfl, hb⟩
    have HB2 := Lib.hid (Below.tr HB1.out hb)
    have HX2 := Lib.hid (HX1.out.below hb)
    have HQ2 := Lib.hid ((HQ.out.below hb).more hb.size)
    clear hb x0 x1 x2 xl HX1 HQ HGL
    have hbb : (g == g) = true := by simp
    have hw2 : w.heap.size ≤ w2.heap.size := HB2.out.size
    go_wp2_with fail
    go_loopw [11, 12] (fun o i wr => HsRel9 V q.length w2 o i wr) (fun _ i _ => q.length + 1 - (intOf i).toNat)
    case atStart => exact ⟨0, Nat.zero_le _, rfl, by rw [HV0.out], Below.refl _ _⟩
    case round =>
      obtain ⟨k, hk, rfl, rfl, HB⟩ := hrel
      have hsz := HB.out.size
      have HBR := Lib.hid (HB2.out.trans (HB.out.mono hw2))
      have hwr : w.heap.size ≤ wr.heap.size := HBR.out.size
      have HXR := Lib.hid (HX2.out.below HB.out)
      have HQR := Lib.hid ((HQ2.out.below HB.out).more hsz)
      obtain ⟨x0, x1, x2⟩ := HXR.out.all
      have xl := HXR.out.lt
      by_cases hlt : k < q.length
      · obtain ⟨qb, qo, rfl, hqb, -⟩ := HQR.out.at_ (by omega)
        have HGK := Lib.hid (fun W (hW : Below wr.heap.size wr W) => HGQ.out (k + 1) (by omega) W (HBR.out.trans (hW.mono hwr)) (some ⟨qb, qo, none⟩) qc (zs_take (((HQR.out).below hW).more hW.size) (by omega) rfl))
        have hup := HVU.out k hlt
        have hdl : decide ((k : Int) + 1 ≤ (q.length : Int)) = true := decide_eq_true (by omega)
        have hlt' : (k : Int) + 1 ≤ (q.length : Int) := by omega
        have hk0 : (0 : Int) ≤ (k : Int) + 1 := by omega
        have hkc : (k : Int) + 1 ≤ (qc : Int) := by omega
        have hkn : ((k : Int) + 1).toNat = k + 1 := by omega
        obtain ⟨v0, hv0⟩ : ∃ v, V k = v := ⟨_, rfl⟩
        obtain ⟨v1, hv1⟩ : ∃ v, V (k + 1) = v := ⟨_, rfl⟩
        rw [hv0, hv1] at hup
        rw [hv1] at HGK
        rw [hv0]
        have HV1 := Lib.hid hv1
        have hd : decide (v1 ≤ v0) = false := decide_eq_false (by omega)
        clear hv0 hv1
        go_wp2_with fail
        refine wp_region_bw2 (by kernel_rfl) (by kernel_rfl) (fun hbwc => ?_)
        repeat (go_big_quiet_step ((go_at_call 30; (with_reducible exact bwCall (HGK.out _ (BW.below _))))))
        refine wpQuiet_nil ?_
        clear hbwc
        intro w3 hb
        have HB3 := Lib.hid (HB.out.trans (((show Below wr.heap.size wr _ from (by repeat (first | exact Below.refl _ _ | assumption | refine below_drewN ?_ _ | refine Below.drew ?_ | refine Below.setCell ?_ (by first | omega | (simp; done) | (simp; omega)) _ | refine Below.alloc ?_ (by first | omega | (simp; done) | (simp; omega)) _))).trans (hb.mono (by first | omega | (simp; done) | (simp; omega)))).mono hsz))
        clear hb x0 x1 x2 xl
        go_wp2_with fail
        go_roundw
        case rel => exact ⟨k + 1, by omega, by go_num, by rw [HV1.out], HB3⟩
        case measure => simp [intOf]; omega
      · obtain rfl : k = q.length := by omega
        have hdl : decide ((q.length : Int) + 1 ≤ (q.length : Int)) = false := decide_eq_false (by omega)
        go_wp2_with fail
        refine (HGP.out _ HBR.out).mono ?_
        rintro e w6 ⟨rfl, hb⟩
        have HB6 := Lib.hid (Below.tr HBR.out hb)
        have HX6 := Lib.hid (HXR.out.below hb)
        clear hb x0 x1 x2 xl
        obtain ⟨x0, x1, x2⟩ := HX6.out.all
        have xl := HX6.out.lt
        have hgt : decide (g ≤ tt) = true := decide_eq_true f7
        by_cases h0 : oe = 0
        · subst h0
          have ho := HOV.out rfl
          have hdo : decide (ov ≤ 2 * g) = true := decide_eq_true ho
          go_wp2_with fail
          refine (HTT.out _ HB6.out).mono ?_
          rintro e w7 ⟨rfl, hb⟩
          have HBT := Lib.hid (Below.tr HB6.out hb)
          clear hb x0 x1 x2 xl
          go_wp2_with fail
          refine (works_ _ (HM.out.below HBT.out (Nat.le_refl _))).mono ?_
          rintro e w9 ⟨rfl, hb⟩
          have HB9 := Lib.hid (Below.tr HBT.out hb)
          clear hb
          go_wp2_with fail
          go_ret
          exact ⟨rfl, HB9.out⟩
        · have hne : (oe != 0) = true := by simpa using h0
          go_wp2_with fail
          refine (HTT.out _ HB6.out).mono ?_
          rintro e w7 ⟨rfl, hb⟩
          have HBT := Lib.hid (Below.tr HB6.out hb)
          clear hb x0 x1 x2 xl
          go_wp2_with fail
          refine (works_ _ (HM.out.below HBT.out (Nat.le_refl _))).mono ?_
          rintro e w9 ⟨rfl, hb⟩
          have HB9 := Lib.hid (Below.tr HBT.out hb)
          clear hb
          go_wp2_with fail
          go_ret
          exact ⟨rfl, HB9.out⟩
  · obtain ⟨rfl, rfl⟩ := HQE.out h0
    have hne : (gv != 0) = true := by simpa using h0
    clear HFC HTO HQE h0
    go_enter Tryz.func9, Tryz.ntmps9
    go_wp2_with fail
    obtain ⟨wb, hwb⟩ : ∃ W, w.alloc (.cells #[.int .i64 n, .slice A ws.length c, .slice B sm.length d] 57) = W := ⟨_, rfl⟩
    rw [hwb] at HX HBW ⊢
    have hwl : w.heap.size ≤ wb.heap.size := HBW.out.size
    clear hwb
    refine (HP1.out _ HBW.out).mono ?_
    rintro e w1 ⟨QA, qc, rfl, hq, hb⟩
    have HBT := Lib.hid (HBW.out.trans (hb.mono hwl))
    clear hq hb
    go_wp2_with fail
    refine (works_ _ (HM.out.below HBT.out (Nat.le_refl _))).mono ?_
    rintro e w9 ⟨rfl, hb⟩
    have HB9 := Lib.hid (Below.tr HBT.out hb)
    clear hb
    go_wp2_with fail
    go_ret
    exact ⟨rfl, HB9.out⟩
end Go.Proofs.YtcclfhdglhbpcaaGreatDoor
