/-
  The walks of the specification's seen, sees, Sees, for all inputs.
-/
import Derived.Test.YtcclfhdglhbpcaaGreatDoorW44
import Derived.Test.YtcclfhdglhbpcaaGreatDoorW40
import Derived.Test.YtcclfhdglhbpcaaGreatDoorW43
import Derived.Test.YtcclfhdglhbpcaaGreatDoorW33
import Derived.Test.YtcclfhdglhbpcaaGreatDoorW25
namespace Go.Proofs.YtcclfhdglhbpcaaGreatDoor
open Go.RowKit Al

set_option maxRecDepth 100000 in
set_option maxHeartbeats 8000000 in
theorem rseen_ (L : List Scp) (A : Option Addr) (c : Nat) (n cl : Int) (si ti : Nat) (w : World) (hL : Sl w w.heap.size 6 A L.length c (scsC L)) (hz : ∀ x ∈ L, Sl w w.heap.size 3 x.ZA x.zs.length x.zc (zsC x.zs))
    (h1 : 1 ≤ n) (h8 : n ≤ 8) (hsi : si < L.length) (hti : ti < (L[si]'hsi).zs.length) (hc0 : 0 ≤ cl) (hc1 : cl < 6 * (n * n)) :
    Calls Tryz.prog 114 #[.slice A L.length c, .int .i64 (ti : Int), .int .i64 (si : Int), .int .i64 n, .int .i64 cl] w fun e w' => e = .returned (.bool (nearW (dirV n cl) ((L[si]'hsi).zs.getD ti (0, 0, 0)) (L[si]'hsi).ln (L[si]'hsi).ld)) ∧ Below w.heap.size w w' := by
  have HDC := Lib.hid (fun W => rdirection_ n cl h1 h8 hc0 hc1 W)
  have hcap := hL.cap
  obtain ⟨tb, tof, rfl, htb, c0, c1, c2, c3, c4, c5⟩ := hL.sc_at hsi
  have hzx := hz _ (List.getElem_mem hsi)
  obtain ⟨x, hx⟩ : ∃ x, L[si]'hsi = x := ⟨_, rfl⟩
  rw [hx] at c3 c4 c5 hzx
  simp only [hx] at hti ⊢
  obtain ⟨zb, zof, hza, hzb, d0, d1, d2⟩ := hzx.z_at hti
  have hcz := hzx.cap
  rw [show x.zs.getD ti (0, 0, 0) = x.zs[ti] by simp [hti]]
  obtain ⟨⟨a, b, cc⟩, hzz⟩ : ∃ z, x.zs[ti] = z := ⟨_, rfl⟩
  rw [hzz] at d0 d1 d2 ⊢
  simp only at d0 d1 d2
  rw [hza] at c5
  obtain ⟨⟨p, q, r⟩, hdv⟩ : ∃ d, dirV n cl = d := ⟨_, rfl⟩
  rw [hdv] at HDC ⊢
  have HNR : Hid (∀ W, Calls Tryz.prog 116 #[v3 (p, q, r), .agg #[.int .i64 a, .int .i64 b, .int .i64 cc], .agg #[.int .i64 x.ln, .int .i64 x.ld]] W fun e w' => e = .returned (.bool (nearW (p, q, r) (a, b, cc) x.ln x.ld)) ∧ Below W.heap.size W w') := fun W => rnear_ (p, q, r) (a, b, cc) x.ln x.ld W
  obtain ⟨res, hres⟩ : ∃ rb, nearW (p, q, r) (a, b, cc) x.ln x.ld = rb := ⟨_, rfl⟩
  rw [hres] at HNR ⊢
  have i0 : (0 : Int) ≤ (si : Int) := by omega
  have i1 : (si : Int) < (L.length : Int) := by omega
  have i2 : (0 : Int) ≤ (ti : Int) := by omega
  have i3 : (ti : Int) < (x.zs.length : Int) := by omega
  have i4 : (x.zs.length : Int) ≤ (x.zc : Int) := by omega
  have i5 : (L.length : Int) ≤ (c : Int) := by omega
  clear hzx hx hzz hdv hres hL hz c0 c1 c2 hcap hcz hza
  go_enter Tryz.func114, Tryz.ntmps114
  go_wp2_with fail
  refine wp_region_bw2 (by kernel_rfl) (by kernel_rfl) (fun hbwc => ?_)
  repeat (go_big_quiet_step ((first | (with_reducible exact bwCall (HDC.out _)) | (with_reducible exact bwCall (HNR.out _)))))
  refine wpQuiet_nil ?_
  clear hbwc
  intro w2 hb
  have HB2 := Lib.hid ((show Below w.heap.size w _ from (by repeat (first | exact Below.refl _ _ | assumption | refine below_drewN ?_ _ | refine Below.drew ?_ | refine Below.setCell ?_ (by first | omega | (simp; done) | (simp; omega)) _ | refine Below.alloc ?_ (by first | omega | (simp; done) | (simp; omega)) _))).trans (hb.mono (by first | omega | (simp; done) | (simp; omega))))
  clear hb
  go_wp2_with fail
  go_ret
  exact ⟨rfl, HB2.out⟩
/-- A fresh list of ints. -/
def LstO (l : List Int) (w : World) (e : Ending) (w' : World) : Prop := ∃ D dc, e = .returned (.slice D l.length dc) ∧ w'.ownsRow w.heap.size 3 1 (.slice D l.length dc) l.length (ints l) ∧ Below w.heap.size w w'
set_option maxRecDepth 100000 in
set_option maxHeartbeats 8000000 in
theorem rsees_ (L : List Scp) (A : Option Addr) (c : Nat) (n : Int) (si ti : Nat) (w : World) (hL : Sl w w.heap.size 6 A L.length c (scsC L)) (hz : ∀ x ∈ L, Sl w w.heap.size 3 x.ZA x.zs.length x.zc (zsC x.zs))
    (h1 : 1 ≤ n) (h8 : n ≤ 8) (hsi : si < L.length) (hti : ti < (L[si]'hsi).zs.length) (N : Nat) (hN : (N : Int) = 6 * (n * n)) :
    Calls Tryz.prog 78 #[.slice A L.length c, .int .i64 (ti : Int), .int .i64 (si : Int), .int .i64 n] w (LstO (seesX n N (L[si]'hsi) ti) w) := by
  obtain ⟨i0, hi, hz0, hz1, hz2⟩ := info_parts cInfo
  obtain ⟨k1, k2, k3⟩ := six_in h1 h8
  have HC : Hid (∀ W, Calls Tryz.prog 54 #[.int .i64 n] W fun e w' => e = .returned (.int .i64 (N : Int)) ∧ W = w') := fun W => by rw [hN]; exact rcells_ n h1 h8 W
  have HSN := Lib.hid (fun (k : Nat) (hk : k < N) W (hW : Below w.heap.size w W) => rseen_ L A c n (k : Int) si ti W ((hL.below hW).more hW.size) (fun x hx => ((hz x hx).below hW).more hW.size) h1 h8 hsi hti (by omega) (by omega))
  have hN1 : N ≤ 384 := by omega
  unfold seesX
  obtain ⟨is, his⟩ : ∃ is, (fun d => nearW d ((L[si]'hsi).zs.getD ti (0, 0, 0)) (L[si]'hsi).ln (L[si]'hsi).ld) = is := ⟨_, rfl⟩
  have HIS : Hid (∀ d, nearW d ((L[si]'hsi).zs.getD ti (0, 0, 0)) (L[si]'hsi).ln (L[si]'hsi).ld = is d) := fun d => by rw [← his]
  rw [his]
  clear hL hz hN his k1 k2 k3
  go_enter Tryz.func78, Tryz.ntmps78
  go_wp2_with fail
  obtain ⟨w1, hw1⟩ : ∃ W, w = W := ⟨_, rfl⟩
  have HB1 : Hid (Below w.heap.size w w1) := by show Below _ _ _; rw [← hw1]; exact Below.refl _ _
  have hwl : w.heap.size ≤ w1.heap.size := HB1.out.size
  go_loopw [9, 10] (fun o i wr => PkRel is n N w o i wr) (fun _ i _ => N - (intOf i).toNat)
  case atStart => exact ⟨0, none, 0, Nat.zero_le _, rfl, rfl, World.ownsRow_nil _ _ _ _, Below.refl _ _⟩
  case round =>
    obtain ⟨k, D, dc, hk, rfl, rfl, HO, HB⟩ := hrel
    have hsz := HB.out.size
    have hpl := pick_len is n k
    by_cases hlt : k < N
    · have HSK := Lib.hid (HSN.out k hlt wr HB.out)
      have his := HIS.out (dirV n k)
      obtain ⟨r, hr⟩ : ∃ r, is (dirV n k) = r := ⟨_, rfl⟩
      have HPS := Lib.hid (pick_snoc hr)
      rw [hr] at his
      rw [his] at HSK
      have hlt' : (k : Int) < (N : Int) := by omega
      clear his hr
      go_wp2_with (go_at_call 54; refine (HC.out _).mono ?_; rintro e w' ⟨rfl, rfl⟩)
      refine HSK.out.mono ?_
      rintro e w3 ⟨rfl, hb⟩
      have HB3 := Lib.hid (HB.out.trans (hb.mono hsz))
      have HO3 := Lib.hid (own_below HO.out (Nat.le_refl _) hb)
      have hz3 := HB3.out.size
      clear hb HSK
      obtain ⟨pl, hpe⟩ : ∃ l, pickL is (cellsL n k) = l := ⟨_, rfl⟩
      rw [hpe] at HO3 HPS hpl ⊢
      clear hpe HO
      cases r with
      | false =>
        go_wp2_with fail
        go_roundw
        case rel => exact ⟨k + 1, D, dc, by omega, by go_num, by rw [HPS.out]; simp, Lib.hid (by rw [HPS.out]; simpa using HO3.out), HB3⟩
        case measure => simp [intOf]; omega
      | true =>
        have HPT : Hid (pickL is (cellsL n (k + 1)) = pl ++ [(k : Int)]) := HPS.out
        have HOX := Lib.hid (own_below HO3.out (Nat.le_refl _) ((Below.refl w3.heap.size w3).alloc (Nat.le_refl _) (.cells #[.int .i64 (k : Int)] 3)))
        go_wp2_with (at_builtin; go_must (refine wpList_append_lies _ rfl _ _ 27 rfl w.heap.size 3 i0 (.int .i64 0) 1 8 Tryz.underlying27 hi hz0 hz1 hz2 rfl (by decide) (.slice D pl.length dc) pl.length _ rfl HOX.out _ 1 1 [.int .i64 (k : Int)] rfl rfl (World.news_of_block (heap_alloc_new w3 _)) (by intro u hu; rw [List.mem_singleton.1 hu]; rfl) (by decide) (by unfold maxLen; omega) (by omega) (by simp; omega) _ rfl ?_); intro g cap w6 hown6 hg6 hat6 hlt6; have z6 := hg6.size; (try simp at z6))
        go_roundw
        case rel =>
          refine ⟨k + 1, some ⟨g, 0, none⟩, cap, by omega, by go_num, by rw [HPT.out, List.length_append]; rfl, Lib.hid ?_, Lib.hid ((HB3.out.alloc (by omega) _).grown hg6 (by simp; omega) (fun g h => (own_lt HO3.out h).1))⟩
          rw [HPT.out, List.length_append, show ints (pl ++ [(k : Int)]) = ints pl ++ [.int .i64 (k : Int)] by simp [ints]]
          exact hown6
        case measure => simp [intOf]; omega
    · obtain rfl : k = N := by omega
      go_wp2_with (go_at_call 54; refine (HC.out _).mono ?_; rintro e w' ⟨rfl, rfl⟩)
      go_ret
      exact ⟨_, _, rfl, HO.out, HB.out⟩
theorem turn_at {L : List Scp} {t s : Int} (hok : ScsOk L (m0L L)) (h : turnB L t s = true) : ∃ (si ti : Nat) (hs : si < L.length), t = (ti : Int) ∧ s = (si : Int) ∧ ti < (L[si]'hs).zs.length ∧ L[si]'hs = scpAt L s := by
  unfold turnB at h
  rw [Bool.and_eq_true] at h
  have a := inB_true.1 h.1
  have b := inB_true.1 h.2
  have hs : s.toNat < L.length := by omega
  have hz := (hok.ok _ (List.getElem_mem hs)).zm
  refine ⟨s.toNat, t.toNat, hs, by omega, by omega, by omega, ?_⟩
  unfold scpAt
  simp [hs]
set_option maxRecDepth 100000 in
set_option maxHeartbeats 8000000 in
theorem rSees_ (L : List Scp) (A : Option Addr) (c : Nat) (n t s : Int) (w : World) (hL : Sl w w.heap.size 6 A L.length c (scsC L)) (hz : ∀ x ∈ L, Sl w w.heap.size 3 x.ZA x.zs.length x.zc (zsC x.zs)) (hs : ∀ x ∈ L, x.nm.size ≤ maxLen) (N : Nat) (hN : (N : Int) = 6 * (n * n)) :
    Calls Tryz.prog 39 #[.slice A L.length c, .int .i64 t, .int .i64 s, .int .i64 n] w (FitOut (seesE L n t s) (seesL L n t s N) w) := by
  have HSC := Lib.hid (rscoped_ L A c n w hL hz hs)
  by_cases hg : gW L n = 0
  · obtain ⟨hb, h1, h8⟩ := gW_ok hg
    have hok := scsB_ok hb hs
    rw [hg] at HSC
    have hl1 := hok.l1
    have hl4 := hok.l4
    have hm8 : m0L L ≤ 8 := by have h9 := (hok.ok _ (List.getElem_mem (show 0 < L.length by omega))).z8; rw [m0L_is (by omega)] at h9; exact h9
    obtain ⟨b1, hb1⟩ : ∃ b, inB s 0 ((L.length : Int) - 1) = b := ⟨_, rfl⟩
    obtain ⟨b2, hb2⟩ : ∃ b, inB t 0 ((m0L L : Int) - 1) = b := ⟨_, rfl⟩
    have htb : turnB L t s = (b1 && b2) := by unfold turnB; rw [hb1, hb2]
    have HL := Lib.hid hL
    have hL0 : 0 < L.length := by omega
    have hLI : (0 : Int) < (L.length : Int) := by omega
    have hz0 := m0L_is hL0
    have s1 : wrap64 ((L.length : Int) - 1) = (L.length : Int) - 1 := w64 (by omega) (by omega)
    have s2 : wrap64 ((m0L L : Int) - 1) = (m0L L : Int) - 1 := w64 (by omega) (by omega)
    cases hc : b1 && b2 with
    | true =>
      rw [hc] at htb
      rw [Bool.and_eq_true] at hc
      obtain ⟨rfl, rfl⟩ := hc
      have e : seesE L n t s = 0 := by unfold seesE; rw [hg, htb]; rfl
      have e2 : seesL L n t s N = seesX n N (scpAt L s) t.toNat := by unfold seesL; rw [if_pos e]
      rw [e, e2]
      obtain ⟨si, ti, hsi, hte, hse, hti, hxe⟩ := turn_at hok htb
      have HSS := Lib.hid (fun W (hW : Below w.heap.size w W) => rsees_ L A c n si ti W ((hL.below hW).more hW.size) (fun x hx => ((hz x hx).below hW).more hW.size) h1 h8 hsi hti N hN)
      rw [hxe, ← hte, ← hse, show ti = t.toNat by omega] at HSS
      obtain ⟨V, hV⟩ : ∃ l, seesX n N (scpAt L s) t.toNat = l := ⟨_, rfl⟩
      rw [hV] at HSS ⊢
      obtain ⟨m0, hm0⟩ : ∃ m, m0L L = m := ⟨_, rfl⟩
      rw [hm0] at hb2 hz0 s2
      clear e e2 hok hb hg htb hL hz hs hte hse hti hxe hV hm0
      go_enter Tryz.func39, Tryz.ntmps39
      go_wp2_with fail
      refine HSC.out.mono ?_
      rintro e w1 ⟨rfl, hb⟩
      have HB := Lib.hid hb
      obtain ⟨sb, so, rfl, hsb, -, -, -, -, -, c5⟩ := (HL.out.below hb).sc_at hL0
      rw [hz0] at c5
      simp only [Nat.zero_mul, Nat.add_zero] at c5
      clear hb
      go_wp2_with (go_at_call 29; refine (rInB_ _ _ _ _).mono ?_; rintro e w' ⟨rfl, rfl⟩; first | rw [hb1] | rw [hb2])
      refine (HSS.out _ HB.out).mono ?_
      rintro e w2 ⟨D, dc, rfl, hO, hb⟩
      have HO := Lib.hid hO
      have HB2 := Lib.hid (Below.tr HB.out hb)
      have HBS := Lib.hid (HB.out.size)
      clear hO hb
      go_wp2_with fail
      go_ret2
      exact ⟨_, rfl, own_le HO.out HBS.out, HB2.out⟩
    | false =>
      rw [hc] at htb
      have e : seesE L n t s = 94 := by unfold seesE; rw [hg, htb]; rfl
      have e2 : seesL L n t s N = [] := by unfold seesL; rw [if_neg (by rw [e]; decide)]
      rw [e, e2]
      obtain ⟨m0, hm0⟩ : ∃ m, m0L L = m := ⟨_, rfl⟩
      rw [hm0] at hb2 hz0 s2
      clear e e2 hok hb hg htb hL hz hs hm0
      cases b1 with
      | false =>
        clear hb2
        go_enter Tryz.func39, Tryz.ntmps39
        go_wp2_with fail
        refine HSC.out.mono ?_
        rintro e w1 ⟨rfl, hb⟩
        have HB := Lib.hid hb
        clear hb
        go_wp2_with (go_at_call 29; refine (rInB_ _ _ _ _).mono ?_; rintro e w' ⟨rfl, rfl⟩; first | rw [hb1])
        go_ret2
        exact FitOut.none 94 HB.out
      | true =>
        obtain rfl : b2 = false := by simpa using hc
        go_enter Tryz.func39, Tryz.ntmps39
        go_wp2_with fail
        refine HSC.out.mono ?_
        rintro e w1 ⟨rfl, hb⟩
        have HB := Lib.hid hb
        obtain ⟨sb, so, rfl, hsb, -, -, -, -, -, c5⟩ := (HL.out.below hb).sc_at hL0
        rw [hz0] at c5
        simp only [Nat.zero_mul, Nat.add_zero] at c5
        clear hb
        go_wp2_with (go_at_call 29; refine (rInB_ _ _ _ _).mono ?_; rintro e w' ⟨rfl, rfl⟩; first | rw [hb1] | rw [hb2])
        go_ret2
        exact FitOut.none 94 HB.out
  · have e : seesE L n t s = gW L n := by unfold seesE; rw [if_neg (by simpa using hg)]
    have e2 : seesL L n t s N = [] := by unfold seesL; rw [if_neg (by rw [e]; exact hg)]
    rw [e, e2]
    obtain ⟨v, hv⟩ : ∃ v, gW L n = v := ⟨_, rfl⟩
    rw [hv] at HSC hg ⊢
    have hnz : (v != 0) = true := by simpa using hg
    clear hL hz hs hv e e2
    go_enter Tryz.func39, Tryz.ntmps39
    go_wp2_with fail
    refine HSC.out.mono ?_
    rintro e w1 ⟨rfl, hb⟩
    have HB := Lib.hid hb
    clear hb
    go_wp2_with fail
    go_ret2
    exact FitOut.none v HB.out
end Go.Proofs.YtcclfhdglhbpcaaGreatDoor

/-
  The walk of the specification's plan: are these looks a plan?
-/
namespace Go.Proofs.YtcclfhdglhbpcaaGreatDoor
open Go.RowKit Al

theorem sees_has {n : Int} {N : Nat} {x : Scp} {t : Nat} {cl : Int} (h0 : 0 ≤ cl) (h1 : cl < (N : Int)) : (seesX n N x t).contains cl = nearW (dirV n cl) (x.zs.getD t (0, 0, 0)) x.ln x.ld := by
  rw [Bool.eq_iff_iff, List.contains_iff_mem]
  unfold seesX
  rw [pick_mem]
  exact ⟨fun h => h.2.2, fun h => ⟨h0, h1, h⟩⟩
theorem look_turn {L : List Scp} {n : Int} {N : Nat} {t s cl : Int} (h : turnB L t s = false) : lookB L n N (t, s, cl) = false := by
  unfold lookB
  simp only
  rw [h]
  rfl
theorem look_cell {L : List Scp} {n : Int} {N : Nat} {t s cl : Int} (h : inB cl 0 ((N : Int) - 1) = false) : lookB L n N (t, s, cl) = false := by
  unfold lookB
  simp only
  rw [Bool.and_eq_false_iff]
  refine .inr ?_
  rw [← Bool.not_eq_true, List.contains_iff_mem]
  intro hm
  have h1 := seesX_in hm
  have h2 := inB_false.1 h
  omega
theorem look_seen {L : List Scp} {n : Int} {N : Nat} {t s cl : Int} (ht : turnB L t s = true) (h : inB cl 0 ((N : Int) - 1) = true) : lookB L n N (t, s, cl) = nearW (dirV n cl) ((scpAt L s).zs.getD t.toNat (0, 0, 0)) (scpAt L s).ln (scpAt L s).ld := by
  unfold lookB
  simp only
  have h2 := inB_true.1 h
  rw [ht, Bool.true_and, sees_has (by omega) (by omega)]
def RpRel (L : List Scp) (n : Int) (N : Nat) (p : List V3) (w : World) (i : Value) (wr : World) : Prop := ∃ k : Nat, k ≤ p.length ∧ i = .int .i64 (k : Int) ∧ Hid (planN L n N p k = true) ∧ Hid (Below w.heap.size w wr)
set_option maxRecDepth 100000 in
set_option maxHeartbeats 16000000 in
theorem rplan_ (L : List Scp) (A : Option Addr) (c : Nat) (n : Int) (p : List V3) (PA : Option Addr) (pc : Nat) (w : World) (hL : Sl w w.heap.size 6 A L.length c (scsC L)) (hz : ∀ x ∈ L, Sl w w.heap.size 3 x.ZA x.zs.length x.zc (zsC x.zs)) (hok : ScsOk L (m0L L))
    (h1 : 1 ≤ n) (h8 : n ≤ 8) (N : Nat) (hN : (N : Int) = 6 * (n * n)) (hp : Sl w w.heap.size 3 PA p.length pc (zsC p)) :
    Calls Tryz.prog 75 #[.slice A L.length c, .int .i64 n, .slice PA p.length pc] w fun e w' => e = .returned (.bool (planB L n N p)) ∧ Below w.heap.size w w' := by
  have HP := Lib.hid hp
  have hpl : p.length ≤ maxLen := Nat.le_trans hp.cap hp.max
  unfold maxLen at hpl
  have hl1 := hok.l1
  have hl4 := hok.l4
  have hm8 : m0L L ≤ 8 := by have h9 := (hok.ok _ (List.getElem_mem (show 0 < L.length by omega))).z8; rw [m0L_is (by omega)] at h9; exact h9
  have HOKS := Lib.hid hok
  have HL := Lib.hid hL
  have HZ := Lib.hid hz
  obtain ⟨k1, k2, k3⟩ := six_in h1 h8
  have HC : Hid (∀ W, Calls Tryz.prog 54 #[.int .i64 n] W fun e w' => e = .returned (.int .i64 (N : Int)) ∧ W = w') := fun W => by rw [hN]; exact rcells_ n h1 h8 W
  have HSQ : Hid (∀ (si ti : Nat) (hsi : si < L.length) (hti : ti < (L[si]'hsi).zs.length) (cl : Int), 0 ≤ cl → cl < (N : Int) → ∀ W, Below w.heap.size w W → Calls Tryz.prog 114 #[.slice A L.length c, .int .i64 (ti : Int), .int .i64 (si : Int), .int .i64 n, .int .i64 cl] W fun e w' => e = .returned (.bool (nearW (dirV n cl) ((L[si]'hsi).zs.getD ti (0, 0, 0)) (L[si]'hsi).ln (L[si]'hsi).ld)) ∧ Below W.heap.size W w') := fun si ti hsi hti cl a b W hW => rseen_ L A c n cl si ti W ((HL.out.below hW).more hW.size) (fun x hx => ((HZ.out x hx).below hW).more hW.size) h1 h8 hsi hti a (by rw [← hN]; exact b)
  have hN1 : (N : Int) ≤ 384 := by omega
  have s1 : wrap64 ((L.length : Int) - 1) = (L.length : Int) - 1 := w64 (by omega) (by omega)
  have s2 : wrap64 ((m0L L : Int) - 1) = (m0L L : Int) - 1 := w64 (by omega) (by omega)
  have s3 : wrap64 ((N : Int) - 1) = (N : Int) - 1 := w64 (by omega) (by omega)
  have hLI : (0 : Int) < (L.length : Int) := by omega
  have hz0 := m0L_is (L := L) (by omega)
  obtain ⟨m0, hm0⟩ : ∃ m, m0L L = m := ⟨_, rfl⟩
  have HM0 := Lib.hid hm0
  rw [hm0] at hz0 s2 hm8
  clear hp hok hL hz hN k1 k2 k3 hm0 h1 h8
  go_enter Tryz.func75, Tryz.ntmps75
  go_wp2_with fail
  go_loopw [7] (fun i wr => RpRel L n N p w i wr) (fun i _ => p.length - (intOf i).toNat)
  case atStart => exact ⟨0, Nat.zero_le _, rfl, rfl, Below.refl _ _⟩
  case round =>
    obtain ⟨k, hk, rfl, HN, HB⟩ := hrel
    have hsz := HB.out.size
    by_cases hlt : k < p.length
    · obtain ⟨pb, pof, rfl, hpb, c0, c1, c2⟩ := (HP.out.below HB.out).z_at hlt
      have hst : planS L n N p k = (lookB L n N p[k] && (k == 0 || riseB (p.getD (k - 1) (0, 0, 0)) p[k])) := by unfold planS; rw [show p.getD k (0, 0, 0) = p[k] by simp [hlt]]
      have HBAD : Hid ((lookB L n N p[k] && (k == 0 || riseB (p.getD (k - 1) (0, 0, 0)) p[k])) = false → planB L n N p = false) := fun h => planB_no hlt (by rw [hst]; exact h)
      have HOK : Hid ((lookB L n N p[k] && (k == 0 || riseB (p.getD (k - 1) (0, 0, 0)) p[k])) = true → planN L n N p (k + 1) = true) := fun h => by rw [planN_succ, HN.out, hst, h]; rfl
      obtain ⟨⟨t, s, cl⟩, hx⟩ : ∃ x, p[k] = x := ⟨_, rfl⟩
      rw [hx] at c0 c1 c2 HBAD HOK
      simp only at c0 c1 c2
      have hlt' : (k : Int) < (p.length : Int) := by omega
      obtain ⟨sb, so, hA, hsb, -, -, -, -, -, z5⟩ := (HL.out.below HB.out).sc_at (show 0 < L.length by omega)
      rw [hz0] at z5
      simp only [Nat.zero_mul, Nat.add_zero] at z5
      obtain ⟨zA0, hzA0⟩ : ∃ a, (L[0]'(by omega)).ZA = a := ⟨_, rfl⟩
      obtain ⟨zc0, hzc0⟩ : ∃ a, (L[0]'(by omega)).zc = a := ⟨_, rfl⟩
      rw [hzA0, hzc0] at z5
      have hpb2 : pb < wr.heap.size := by omega
      have hsb2 : sb < wr.heap.size := by omega
      clear hst hx hzA0 hzc0
      go_upto_region 5 with fail
      have HX : Hid (Bx3 (wr.alloc (.cells #[.int .i64 t, .int .i64 s, .int .i64 cl] 66)) wr.heap.size (t, s, cl)) := heap_alloc_new wr _
      have HX1 : Hid (Below wr.heap.size wr (wr.alloc (.cells #[.int .i64 t, .int .i64 s, .int .i64 cl] 66))) := (Below.refl _ _).alloc (Nat.le_refl _) _
      obtain ⟨X, hX⟩ : ∃ X, wr.alloc (.cells #[.int .i64 t, .int .i64 s, .int .i64 cl] 66) = X := ⟨_, rfl⟩
      rw [hX] at HX HX1 ⊢
      have z6 := (HX1.out.cell (p := ⟨sb, so + 5, none⟩) hsb2).trans z5
      have hsX : sb < X.heap.size := by have := HX1.out.size; omega
      obtain ⟨xb, hxb⟩ : ∃ b, wr.heap.size = b := ⟨_, rfl⟩
      rw [hxb] at HX
      first | rw [hxb] | skip
      have HBX : Hid (Below w.heap.size w X) := HB.out.trans (HX1.out.mono hsz)
      have HTT := Lib.hid (show ∀ b2 b1, inB t 0 ((m0 : Int) - 1) = b2 → inB s 0 ((L.length : Int) - 1) = b1 → turnB L t s = (b1 && b2) from fun b2 b1 h2 h1 => by unfold turnB; rw [HM0.out, h2, h1])
      clear hX c0 c1 c2 z5 hxb hpb2 hsb2 hpb hsb
      obtain ⟨x0, x1, x2⟩ := (⟨HX.out.c0, HX.out.c1, HX.out.c2⟩ : _ ∧ _ ∧ _)
      have xl := HX.out.lt
      simp only at x0 x1 x2
      cases b2 : inB t 0 ((m0 : Int) - 1) with
      | false =>
        have HNO : Hid (planB L n N p = false) := HBAD.out (by rw [look_turn (by rw [HTT.out _ _ b2 rfl, Bool.and_false])]; rfl)
        subst hA
        go_wp2_with fail
        refine wp_region_bw2 (by kernel_rfl) (by kernel_rfl) (fun hbwc => ?_)
        repeat (go_big_quiet_step ((first | (go_at_call 29; exact bwSame (rInB_ _ _ _ _)) | (go_at_call 54; (with_reducible exact bwSame (HC.out _))) | (go_at_call 114; (with_reducible exact bwCall (HSN.out _ (BW.below _)))))))
        refine wpQuiet_nil ?_
        clear hbwc
        intro w5 hb
        have HB5 : Hid (Below w.heap.size w w5) := HBX.out.trans (((show Below X.heap.size X _ from (by repeat (first | exact Below.refl _ _ | assumption | refine below_drewN ?_ _ | refine Below.drew ?_ | refine Below.setCell ?_ (by first | omega | (simp; done) | (simp; omega)) _ | refine Below.alloc ?_ (by first | omega | (simp; done) | (simp; omega)) _))).trans (hb.mono (by first | omega | (simp; done) | (simp; omega)))).mono HBX.out.size)
        have HX5 : Hid (Bx3 w5 xb (t, s, cl)) := HX.out.below ((show Below X.heap.size X _ from (by repeat (first | exact Below.refl _ _ | assumption | refine below_drewN ?_ _ | refine Below.drew ?_ | refine Below.setCell ?_ (by first | omega | (simp; done) | (simp; omega)) _ | refine Below.alloc ?_ (by first | omega | (simp; done) | (simp; omega)) _))).trans (hb.mono (by first | omega | (simp; done) | (simp; omega))))
        clear hb
        go_wp2_with fail
        go_ret
        exact ⟨ret_bool HNO.out.symm, HB5.out⟩
      | true =>
        cases b1 : inB s 0 ((L.length : Int) - 1) with
        | false =>
          have HNO : Hid (planB L n N p = false) := HBAD.out (by rw [look_turn (by rw [HTT.out _ _ b2 b1]; rfl)]; rfl)
          subst hA
          go_wp2_with fail
          refine wp_region_bw2 (by kernel_rfl) (by kernel_rfl) (fun hbwc => ?_)
          repeat (go_big_quiet_step ((first | (go_at_call 29; exact bwSame (rInB_ _ _ _ _)) | (go_at_call 54; (with_reducible exact bwSame (HC.out _))) | (go_at_call 114; (with_reducible exact bwCall (HSN.out _ (BW.below _)))))))
          refine wpQuiet_nil ?_
          clear hbwc
          intro w5 hb
          have HB5 : Hid (Below w.heap.size w w5) := HBX.out.trans (((show Below X.heap.size X _ from (by repeat (first | exact Below.refl _ _ | assumption | refine below_drewN ?_ _ | refine Below.drew ?_ | refine Below.setCell ?_ (by first | omega | (simp; done) | (simp; omega)) _ | refine Below.alloc ?_ (by first | omega | (simp; done) | (simp; omega)) _))).trans (hb.mono (by first | omega | (simp; done) | (simp; omega)))).mono HBX.out.size)
          have HX5 : Hid (Bx3 w5 xb (t, s, cl)) := HX.out.below ((show Below X.heap.size X _ from (by repeat (first | exact Below.refl _ _ | assumption | refine below_drewN ?_ _ | refine Below.drew ?_ | refine Below.setCell ?_ (by first | omega | (simp; done) | (simp; omega)) _ | refine Below.alloc ?_ (by first | omega | (simp; done) | (simp; omega)) _))).trans (hb.mono (by first | omega | (simp; done) | (simp; omega))))
          clear hb
          go_wp2_with fail
          go_ret
          exact ⟨ret_bool HNO.out.symm, HB5.out⟩
        | true =>
          cases b3 : inB cl 0 ((N : Int) - 1) with
          | false =>
            have HNO : Hid (planB L n N p = false) := HBAD.out (by rw [look_cell b3]; rfl)
            subst hA
            go_wp2_with fail
            refine wp_region_bw2 (by kernel_rfl) (by kernel_rfl) (fun hbwc => ?_)
            repeat (go_big_quiet_step ((first | (go_at_call 29; exact bwSame (rInB_ _ _ _ _)) | (go_at_call 54; (with_reducible exact bwSame (HC.out _))) | (go_at_call 114; (with_reducible exact bwCall (HSN.out _ (BW.below _)))))))
            refine wpQuiet_nil ?_
            clear hbwc
            intro w5 hb
            have HB5 : Hid (Below w.heap.size w w5) := HBX.out.trans (((show Below X.heap.size X _ from (by repeat (first | exact Below.refl _ _ | assumption | refine below_drewN ?_ _ | refine Below.drew ?_ | refine Below.setCell ?_ (by first | omega | (simp; done) | (simp; omega)) _ | refine Below.alloc ?_ (by first | omega | (simp; done) | (simp; omega)) _))).trans (hb.mono (by first | omega | (simp; done) | (simp; omega)))).mono HBX.out.size)
            have HX5 : Hid (Bx3 w5 xb (t, s, cl)) := HX.out.below ((show Below X.heap.size X _ from (by repeat (first | exact Below.refl _ _ | assumption | refine below_drewN ?_ _ | refine Below.drew ?_ | refine Below.setCell ?_ (by first | omega | (simp; done) | (simp; omega)) _ | refine Below.alloc ?_ (by first | omega | (simp; done) | (simp; omega)) _))).trans (hb.mono (by first | omega | (simp; done) | (simp; omega))))
            clear hb
            go_wp2_with fail
            go_ret
            exact ⟨ret_bool HNO.out.symm, HB5.out⟩
          | true =>
            have htr : turnB L t s = true := HTT.out _ _ b2 b1
            have hlk := look_seen (n := n) htr b3
            obtain ⟨si, ti, hsi, hte, hse, hti, hxe⟩ := turn_at HOKS.out htr
            have hcl := inB_true.1 b3
            have HSN := Lib.hid (fun W (hW : Below X.heap.size X W) => HSQ.out si ti hsi hti cl hcl.1 (by omega) W (HBX.out.trans (hW.mono HBX.out.size)))
            rw [hxe, ← hte, ← hse, show ti = t.toNat by omega] at HSN
            obtain ⟨sn, hsn⟩ : ∃ b, nearW (dirV n cl) ((scpAt L s).zs.getD t.toNat (0, 0, 0)) (scpAt L s).ln (scpAt L s).ld = b := ⟨_, rfl⟩
            rw [hsn] at hlk HSN
            rw [hlk] at HBAD HOK
            clear htr hlk hsn hte hse hti hxe hcl hsi
            cases sn with
            | false =>
              have HNO : Hid (planB L n N p = false) := HBAD.out rfl
              subst hA
              go_wp2_with fail
              refine wp_region_bw2 (by kernel_rfl) (by kernel_rfl) (fun hbwc => ?_)
              repeat (go_big_quiet_step ((first | (go_at_call 29; exact bwSame (rInB_ _ _ _ _)) | (go_at_call 54; (with_reducible exact bwSame (HC.out _))) | (go_at_call 114; (with_reducible exact bwCall (HSN.out _ (BW.below _)))))))
              refine wpQuiet_nil ?_
              clear hbwc
              intro w5 hb
              have HB5 : Hid (Below w.heap.size w w5) := HBX.out.trans (((show Below X.heap.size X _ from (by repeat (first | exact Below.refl _ _ | assumption | refine below_drewN ?_ _ | refine Below.drew ?_ | refine Below.setCell ?_ (by first | omega | (simp; done) | (simp; omega)) _ | refine Below.alloc ?_ (by first | omega | (simp; done) | (simp; omega)) _))).trans (hb.mono (by first | omega | (simp; done) | (simp; omega)))).mono HBX.out.size)
              have HX5 : Hid (Bx3 w5 xb (t, s, cl)) := HX.out.below ((show Below X.heap.size X _ from (by repeat (first | exact Below.refl _ _ | assumption | refine below_drewN ?_ _ | refine Below.drew ?_ | refine Below.setCell ?_ (by first | omega | (simp; done) | (simp; omega)) _ | refine Below.alloc ?_ (by first | omega | (simp; done) | (simp; omega)) _))).trans (hb.mono (by first | omega | (simp; done) | (simp; omega))))
              clear hb
              go_wp2_with fail
              go_ret
              exact ⟨ret_bool HNO.out.symm, HB5.out⟩
            | true =>
              by_cases hk0 : k = 0
              · have hd0 : decide ((0 : Int) < (k : Int)) = false := decide_eq_false (by omega)
                have hd9 : decide (0 < k) = false := decide_eq_false (by omega)
                have HST : Hid (planN L n N p (k + 1) = true) := HOK.out (by simp [hk0])
                clear hk0
                subst hA
                go_wp2_with fail
                refine wp_region_bw2 (by kernel_rfl) (by kernel_rfl) (fun hbwc => ?_)
                repeat (go_big_quiet_step ((first | (go_at_call 29; exact bwSame (rInB_ _ _ _ _)) | (go_at_call 54; (with_reducible exact bwSame (HC.out _))) | (go_at_call 114; (with_reducible exact bwCall (HSN.out _ (BW.below _)))))))
                refine wpQuiet_nil ?_
                clear hbwc
                intro w5 hb
                have HB5 : Hid (Below w.heap.size w w5) := HBX.out.trans (((show Below X.heap.size X _ from (by repeat (first | exact Below.refl _ _ | assumption | refine below_drewN ?_ _ | refine Below.drew ?_ | refine Below.setCell ?_ (by first | omega | (simp; done) | (simp; omega)) _ | refine Below.alloc ?_ (by first | omega | (simp; done) | (simp; omega)) _))).trans (hb.mono (by first | omega | (simp; done) | (simp; omega)))).mono HBX.out.size)
                have HX5 : Hid (Bx3 w5 xb (t, s, cl)) := HX.out.below ((show Below X.heap.size X _ from (by repeat (first | exact Below.refl _ _ | assumption | refine below_drewN ?_ _ | refine Below.drew ?_ | refine Below.setCell ?_ (by first | omega | (simp; done) | (simp; omega)) _ | refine Below.alloc ?_ (by first | omega | (simp; done) | (simp; omega)) _))).trans (hb.mono (by first | omega | (simp; done) | (simp; omega))))
                clear hb
                clear x0 x1 x2 xl z6
                go_wp2_with fail
                refine wp_region_bw2 (by kernel_rfl) (by kernel_rfl) (fun hbwc => ?_)
                repeat (go_big_quiet_step (fail))
                refine wpQuiet_nil ?_
                clear hbwc
                intro w8 hb
                have HB8 : Hid (Below w.heap.size w w8) := HB5.out.trans (((show Below w5.heap.size w5 _ from (by repeat (first | exact Below.refl _ _ | assumption | refine below_drewN ?_ _ | refine Below.drew ?_ | refine Below.setCell ?_ (by first | omega | (simp; done) | (simp; omega)) _ | refine Below.alloc ?_ (by first | omega | (simp; done) | (simp; omega)) _))).trans (hb.mono (by first | omega | (simp; done) | (simp; omega)))).mono HB5.out.size)
                clear hb
                go_wp2_with fail
                go_roundw
                case rel => exact ⟨k + 1, by omega, by go_num, HST, HB8⟩
                case measure => simp [intOf]; omega
              · have hd0 : decide ((0 : Int) < (k : Int)) = true := decide_eq_true (by omega)
                have hd9 : decide (0 < k) = true := decide_eq_true (by omega)
                have i0 : (0 : Int) ≤ (k : Int) - 1 := by omega
                have i1 : (k : Int) - 1 < (p.length : Int) := by omega
                have i2 : ((k : Int) - 1).toNat = k - 1 := by omega
                have hpv : p.getD (k - 1) (0, 0, 0) = p[k - 1] := by simp [show k - 1 < p.length by omega]
                obtain ⟨⟨a, b, bc⟩, hpe⟩ : ∃ x, p[k - 1]'(by omega) = x := ⟨_, rfl⟩
                have hkb : (k == 0) = false := by simpa using hk0
                rw [hpv, hpe, hkb] at HBAD HOK
                have hri : riseB (a, b, bc) (t, s, cl) = !(decide (t < a) || (a == t && decide (s ≤ b))) := rfl
                rw [hri] at HBAD HOK
                have HPE := Lib.hid hpe
                clear hpv hkb hri hpe
                subst hA
                go_wp2_with fail
                refine wp_region_bw2 (by kernel_rfl) (by kernel_rfl) (fun hbwc => ?_)
                repeat (go_big_quiet_step ((first | (go_at_call 29; exact bwSame (rInB_ _ _ _ _)) | (go_at_call 54; (with_reducible exact bwSame (HC.out _))) | (go_at_call 114; (with_reducible exact bwCall (HSN.out _ (BW.below _)))))))
                refine wpQuiet_nil ?_
                clear hbwc
                intro w5 hb
                have HB5 : Hid (Below w.heap.size w w5) := HBX.out.trans (((show Below X.heap.size X _ from (by repeat (first | exact Below.refl _ _ | assumption | refine below_drewN ?_ _ | refine Below.drew ?_ | refine Below.setCell ?_ (by first | omega | (simp; done) | (simp; omega)) _ | refine Below.alloc ?_ (by first | omega | (simp; done) | (simp; omega)) _))).trans (hb.mono (by first | omega | (simp; done) | (simp; omega)))).mono HBX.out.size)
                have HX5 : Hid (Bx3 w5 xb (t, s, cl)) := HX.out.below ((show Below X.heap.size X _ from (by repeat (first | exact Below.refl _ _ | assumption | refine below_drewN ?_ _ | refine Below.drew ?_ | refine Below.setCell ?_ (by first | omega | (simp; done) | (simp; omega)) _ | refine Below.alloc ?_ (by first | omega | (simp; done) | (simp; omega)) _))).trans (hb.mono (by first | omega | (simp; done) | (simp; omega))))
                clear hb
                clear x0 x1 x2 xl z6
                obtain ⟨pb', pof', hA, hpb', d0, d1, -⟩ := (HP.out.below HB5.out).z_at (k := k - 1) (by omega)
                cases hA
                rw [HPE.out] at d0 d1
                simp only at d0 d1
                obtain ⟨x0, x1, x2⟩ := (⟨HX5.out.c0, HX5.out.c1, HX5.out.c2⟩ : _ ∧ _ ∧ _)
                have xl := HX5.out.lt
                simp only at x0 x1 x2
                have hpb3 : pb < w5.heap.size := by have := HB5.out.size; omega
                clear hk0
                by_cases hta : t < a
                · have e1 : decide (t < a) = true := decide_eq_true hta
                  have HNO : Hid (planB L n N p = false) := HBAD.out (by rw [e1]; rfl)
                  clear e1
                  go_wp2_with fail
                  refine wp_region_bw2 (by kernel_rfl) (by kernel_rfl) (fun hbwc => ?_)
                  repeat (go_big_quiet_step (fail))
                  refine wpQuiet_nil ?_
                  clear hbwc
                  intro w8 hb
                  have HB8 : Hid (Below w.heap.size w w8) := HB5.out.trans (((show Below w5.heap.size w5 _ from (by repeat (first | exact Below.refl _ _ | assumption | refine below_drewN ?_ _ | refine Below.drew ?_ | refine Below.setCell ?_ (by first | omega | (simp; done) | (simp; omega)) _ | refine Below.alloc ?_ (by first | omega | (simp; done) | (simp; omega)) _))).trans (hb.mono (by first | omega | (simp; done) | (simp; omega)))).mono HB5.out.size)
                  clear hb
                  go_wp2_with fail
                  go_ret
                  exact ⟨ret_bool HNO.out.symm, HB8.out⟩
                · have e1 : decide (t < a) = false := decide_eq_false hta
                  by_cases hat : a = t
                  · have e2 : (a == t) = true := by simpa using hat
                    by_cases hsb : s ≤ b
                    · have e3 : decide (s ≤ b) = true := decide_eq_true hsb
                      have HNO : Hid (planB L n N p = false) := HBAD.out (by rw [e1, e2, e3]; rfl)
                      clear e1 e3
                      go_wp2_with fail
                      refine wp_region_bw2 (by kernel_rfl) (by kernel_rfl) (fun hbwc => ?_)
                      repeat (go_big_quiet_step (fail))
                      refine wpQuiet_nil ?_
                      clear hbwc
                      intro w8 hb
                      have HB8 : Hid (Below w.heap.size w w8) := HB5.out.trans (((show Below w5.heap.size w5 _ from (by repeat (first | exact Below.refl _ _ | assumption | refine below_drewN ?_ _ | refine Below.drew ?_ | refine Below.setCell ?_ (by first | omega | (simp; done) | (simp; omega)) _ | refine Below.alloc ?_ (by first | omega | (simp; done) | (simp; omega)) _))).trans (hb.mono (by first | omega | (simp; done) | (simp; omega)))).mono HB5.out.size)
                      clear hb
                      go_wp2_with fail
                      go_ret
                      exact ⟨ret_bool HNO.out.symm, HB8.out⟩
                    · have e3 : decide (s ≤ b) = false := decide_eq_false hsb
                      have HST : Hid (planN L n N p (k + 1) = true) := HOK.out (by rw [e1, e2, e3]; rfl)
                      clear e1 e3
                      go_wp2_with fail
                      refine wp_region_bw2 (by kernel_rfl) (by kernel_rfl) (fun hbwc => ?_)
                      repeat (go_big_quiet_step (fail))
                      refine wpQuiet_nil ?_
                      clear hbwc
                      intro w8 hb
                      have HB8 : Hid (Below w.heap.size w w8) := HB5.out.trans (((show Below w5.heap.size w5 _ from (by repeat (first | exact Below.refl _ _ | assumption | refine below_drewN ?_ _ | refine Below.drew ?_ | refine Below.setCell ?_ (by first | omega | (simp; done) | (simp; omega)) _ | refine Below.alloc ?_ (by first | omega | (simp; done) | (simp; omega)) _))).trans (hb.mono (by first | omega | (simp; done) | (simp; omega)))).mono HB5.out.size)
                      clear hb
                      go_wp2_with fail
                      go_roundw
                      case rel => exact ⟨k + 1, by omega, by go_num, HST, HB8⟩
                      case measure => simp [intOf]; omega
                  · have e2 : (a == t) = false := by simpa using hat
                    have HST : Hid (planN L n N p (k + 1) = true) := HOK.out (by rw [e1, e2]; rfl)
                    go_wp2_with fail
                    refine wp_region_bw2 (by kernel_rfl) (by kernel_rfl) (fun hbwc => ?_)
                    repeat (go_big_quiet_step (fail))
                    refine wpQuiet_nil ?_
                    clear hbwc
                    intro w8 hb
                    have HB8 : Hid (Below w.heap.size w w8) := HB5.out.trans (((show Below w5.heap.size w5 _ from (by repeat (first | exact Below.refl _ _ | assumption | refine below_drewN ?_ _ | refine Below.drew ?_ | refine Below.setCell ?_ (by first | omega | (simp; done) | (simp; omega)) _ | refine Below.alloc ?_ (by first | omega | (simp; done) | (simp; omega)) _))).trans (hb.mono (by first | omega | (simp; done) | (simp; omega)))).mono HB5.out.size)
                    clear hb
                    go_wp2_with fail
                    go_roundw
                    case rel => exact ⟨k + 1, by omega, by go_num, HST, HB8⟩
                    case measure => simp [intOf]; omega
    · obtain rfl : k = p.length := by omega
      have HY : Hid (planB L n N p = true) := HN.out
      go_wp2_with fail
      go_ret
      exact ⟨ret_bool HY.out.symm, HB.out⟩
end Go.Proofs.YtcclfhdglhbpcaaGreatDoor

/-
  The walks of the specification's covers and Covers, for all inputs.
-/
namespace Go.Proofs.YtcclfhdglhbpcaaGreatDoor
open Go.RowKit Al

theorem covers_pick (n : Int) (N : Nat) (x : Scp) (t : Nat) (cl : Int) : coversX n N x t cl = pickL (fun d => nearW d (x.zs.getD t (0, 0, 0)) x.ln x.ld && nearW d (dirV n cl) x.fn x.fd) (cellsL n N) := by
  unfold coversX seesX pickL cellsL
  rw [List.filter_map, List.filter_filter]
  congr 1
  apply List.filter_congr
  intro y hy
  obtain ⟨k, _, rfl⟩ := List.mem_map.1 hy
  simp only [Function.comp]
  rw [Bool.and_comm]
def RyRel (is : V3 → Bool) (n : Int) (N : Nat) (xb : Nat) (x : V3) (w : World) (o i : Value) (wr : World) : Prop := PkRel is n N w o i wr ∧ Hid (Bx3 wr xb x)
set_option maxRecDepth 100000 in
set_option maxHeartbeats 16000000 in
theorem rcovers_ (L : List Scp) (A : Option Addr) (c : Nat) (n cl : Int) (si ti : Nat) (w : World) (hL : Sl w w.heap.size 6 A L.length c (scsC L)) (hz : ∀ x ∈ L, Sl w w.heap.size 3 x.ZA x.zs.length x.zc (zsC x.zs))
    (h1 : 1 ≤ n) (h8 : n ≤ 8) (hsi : si < L.length) (hti : ti < (L[si]'hsi).zs.length) (N : Nat) (hN : (N : Int) = 6 * (n * n)) (hc0 : 0 ≤ cl) (hc1 : cl < (N : Int)) :
    Calls Tryz.prog 80 #[.slice A L.length c, .int .i64 n, .agg #[.int .i64 (ti : Int), .int .i64 (si : Int), .int .i64 cl]] w (LstO (coversX n N (L[si]'hsi) ti cl) w) := by
  obtain ⟨i0, hi, hz0, hz1, hz2⟩ := info_parts cInfo
  obtain ⟨k1, k2, k3⟩ := six_in h1 h8
  have HC : Hid (∀ W, Calls Tryz.prog 54 #[.int .i64 n] W fun e w' => e = .returned (.int .i64 (N : Int)) ∧ W = w') := fun W => by rw [hN]; exact rcells_ n h1 h8 W
  have HSQ := Lib.hid (fun (k : Nat) (hk : k < N) W (hW : Below w.heap.size w W) => rseen_ L A c n (k : Int) si ti W ((hL.below hW).more hW.size) (fun x hx => ((hz x hx).below hW).more hW.size) h1 h8 hsi hti (by omega) (by omega))
  have HDC := Lib.hid (fun (k : Nat) (hk : k < N) W => rdirection_ n (k : Int) h1 h8 (by omega) (by omega) W)
  have HDE := Lib.hid (fun W => rdirection_ n cl h1 h8 hc0 (by omega) W)
  obtain ⟨⟨e1, e2, e3⟩, hde⟩ : ∃ d, dirV n cl = d := ⟨_, rfl⟩
  have hN1 : N ≤ 384 := by omega
  have HL := Lib.hid hL
  rw [covers_pick, hde]
  rw [hde] at HDE
  obtain ⟨x, hx⟩ : ∃ x, L[si]'hsi = x := ⟨_, rfl⟩
  have HXE := Lib.hid hx
  rw [hx] at HSQ ⊢
  obtain ⟨s1, hs1⟩ : ∃ s1, (fun d => nearW d (x.zs.getD ti (0, 0, 0)) x.ln x.ld) = s1 := ⟨_, rfl⟩
  have HS1 : Hid (∀ d, nearW d (x.zs.getD ti (0, 0, 0)) x.ln x.ld = s1 d) := fun d => by rw [← hs1]
  obtain ⟨is, his⟩ : ∃ is, (fun d => nearW d (x.zs.getD ti (0, 0, 0)) x.ln x.ld && nearW d (e1, e2, e3) x.fn x.fd) = is := ⟨_, rfl⟩
  have HIS : Hid (∀ d, (s1 d && nearW d (e1, e2, e3) x.fn x.fd) = is d) := fun d => by rw [← his, ← HS1.out d]
  rw [his]
  have q0 : (0 : Int) ≤ (si : Int) := by omega
  have q1 : (si : Int) < (L.length : Int) := by omega
  clear hL hz hN his hs1 hx hde k1 k2 k3
  go_enter Tryz.func80, Tryz.ntmps80
  go_wp2_with fail
  have HXB : Hid (Bx3 (w.alloc (.cells #[.int .i64 (ti : Int), .int .i64 (si : Int), .int .i64 cl] 66)) w.heap.size ((ti : Int), (si : Int), cl)) := heap_alloc_new w _
  have HB1 : Hid (Below w.heap.size w (w.alloc (.cells #[.int .i64 (ti : Int), .int .i64 (si : Int), .int .i64 cl] 66))) := (Below.refl _ _).alloc (Nat.le_refl _) _
  obtain ⟨w1, hw1⟩ : ∃ W, w.alloc (.cells #[.int .i64 (ti : Int), .int .i64 (si : Int), .int .i64 cl] 66) = W := ⟨_, rfl⟩
  rw [hw1] at HXB HB1 ⊢
  have hxb : w.heap.size < w1.heap.size := HXB.out.lt
  clear hw1
  go_loopw [7, 8] (fun o i wr => RyRel is n N w.heap.size ((ti : Int), (si : Int), cl) w1 o i wr) (fun _ i _ => N - (intOf i).toNat)
  case atStart => exact ⟨⟨0, none, 0, Nat.zero_le _, rfl, rfl, World.ownsRow_nil _ _ _ _, Below.refl _ _⟩, HXB⟩
  case round =>
    obtain ⟨⟨k, D, dc, hk, rfl, rfl, HO, HB⟩, HXR⟩ := hrel
    have hsz := HB.out.size
    have hpl := pick_len is n k
    by_cases hlt : k < N
    · have HSN0 := Lib.hid (fun W (hW : Below wr.heap.size wr W) => HSQ.out k hlt W (HB1.out.trans ((HB.out.trans (hW.mono hsz)).mono HB1.out.size)))
      have HDK := Lib.hid (HDC.out k hlt)
      have his := HIS.out (dirV n k)
      have hs1 := HS1.out (dirV n k)
      obtain ⟨tb, tof, rfl, htb, -, c1, c2, -, -, -⟩ := (HL.out.below (HB1.out.trans (HB.out.mono HB1.out.size))).sc_at hsi
      rw [HXE.out] at c1 c2
      have htb2 : tb < wr.heap.size := by have : w.heap.size < wr.heap.size := HXR.out.lt
                                          omega
      obtain ⟨r, hr⟩ : ∃ r, is (dirV n k) = r := ⟨_, rfl⟩
      have HPS := Lib.hid (pick_snoc hr)
      rw [hr] at his
      obtain ⟨⟨d1, d2, d3⟩, hdv⟩ : ∃ d, dirV n k = d := ⟨_, rfl⟩
      rw [hdv] at HDK HSN0 his hs1
      obtain ⟨q, hq⟩ : ∃ q, s1 (d1, d2, d3) = q := ⟨_, rfl⟩
      rw [hq] at his hs1
      rw [hs1] at HSN0
      have HNR := Lib.hid (fun W => rnear_ (d1, d2, d3) (e1, e2, e3) x.fn x.fd W)
      obtain ⟨v, hv⟩ : ∃ v, nearW (d1, d2, d3) (e1, e2, e3) x.fn x.fd = v := ⟨_, rfl⟩
      rw [hv] at HNR his
      have HR : Hid ((q && v) = r) := his
      have x0 := HXR.out.c0
      have x1 := HXR.out.c1
      have x2 := HXR.out.c2
      have xl : w.heap.size < wr.heap.size := HXR.out.lt
      simp only at x0 x1 x2
      have hlt' : (k : Int) < (N : Int) := by omega
      have HSN := Lib.hid HSN0.out
      clear his hs1 hr hdv hq hv HSN0
      obtain ⟨pl, hpe⟩ : ∃ l, pickL is (cellsL n k) = l := ⟨_, rfl⟩
      rw [hpe] at HO HPS hpl ⊢
      clear hpe
      have HXW := Lib.hid (fun W (hW : Below wr.heap.size wr W) => HXR.out.below hW)
      cases q with
      | false =>
        obtain rfl : r = false := HR.out.symm
        go_wp2_with (go_at_call 54; refine (HC.out _).mono ?_; rintro e w' ⟨rfl, rfl⟩)
        refine wp_region_bw2 (by kernel_rfl) (by kernel_rfl) (fun hbwc => ?_)
        repeat (go_big_quiet_step ((first | (go_at_call 114; (with_reducible exact bwCall (HSN.out _ (BW.below _)))) | (go_at_call 56; (first | (with_reducible exact bwCall (HDK.out _)) | (with_reducible exact bwCall (HDE.out _)))) | (go_at_call 116; (with_reducible exact bwCall (HNR.out _))))))
        refine wpQuiet_nil ?_
        clear hbwc
        intro w3 hb
        have HB3 : Hid (Below w1.heap.size w1 w3) := HB.out.trans (((show Below wr.heap.size wr _ from (by repeat (first | exact Below.refl _ _ | assumption | refine below_drewN ?_ _ | refine Below.drew ?_ | refine Below.setCell ?_ (by first | omega | (simp; done) | (simp; omega)) _ | refine Below.alloc ?_ (by first | omega | (simp; done) | (simp; omega)) _))).trans (hb.mono (by first | omega | (simp; done) | (simp; omega)))).mono hsz)
        have HO3 := Lib.hid (own_below HO.out (Nat.le_refl _) ((show Below wr.heap.size wr _ from (by repeat (first | exact Below.refl _ _ | assumption | refine below_drewN ?_ _ | refine Below.drew ?_ | refine Below.setCell ?_ (by first | omega | (simp; done) | (simp; omega)) _ | refine Below.alloc ?_ (by first | omega | (simp; done) | (simp; omega)) _))).trans (hb.mono (by first | omega | (simp; done) | (simp; omega)))))
        have hz3 := HB3.out.size
        have HX3 : Hid (Bx3 w3 w.heap.size ((ti : Int), (si : Int), cl)) := HXW.out _ ((show Below wr.heap.size wr _ from (by repeat (first | exact Below.refl _ _ | assumption | refine below_drewN ?_ _ | refine Below.drew ?_ | refine Below.setCell ?_ (by first | omega | (simp; done) | (simp; omega)) _ | refine Below.alloc ?_ (by first | omega | (simp; done) | (simp; omega)) _))).trans (hb.mono (by first | omega | (simp; done) | (simp; omega))))
        clear hb x0 x1 x2 xl HSN HDK HNR c1 c2
        go_wp2_with fail
        go_roundw
        case rel => exact ⟨⟨k + 1, D, dc, by omega, by go_num, by rw [HPS.out]; simp, Lib.hid (by rw [HPS.out]; simpa using HO3.out), HB3⟩, HX3⟩
        case measure => simp [intOf]; omega
      | true =>
        obtain rfl : v = r := HR.out
        go_wp2_with (go_at_call 54; refine (HC.out _).mono ?_; rintro e w' ⟨rfl, rfl⟩)
        refine wp_region_bw2 (by kernel_rfl) (by kernel_rfl) (fun hbwc => ?_)
        repeat (go_big_quiet_step ((first | (go_at_call 114; (with_reducible exact bwCall (HSN.out _ (BW.below _)))) | (go_at_call 56; (first | (with_reducible exact bwCall (HDK.out _)) | (with_reducible exact bwCall (HDE.out _)))) | (go_at_call 116; (with_reducible exact bwCall (HNR.out _))))))
        refine wpQuiet_nil ?_
        clear hbwc
        intro w3 hb
        have HB3 : Hid (Below w1.heap.size w1 w3) := HB.out.trans (((show Below wr.heap.size wr _ from (by repeat (first | exact Below.refl _ _ | assumption | refine below_drewN ?_ _ | refine Below.drew ?_ | refine Below.setCell ?_ (by first | omega | (simp; done) | (simp; omega)) _ | refine Below.alloc ?_ (by first | omega | (simp; done) | (simp; omega)) _))).trans (hb.mono (by first | omega | (simp; done) | (simp; omega)))).mono hsz)
        have HO3 := Lib.hid (own_below HO.out (Nat.le_refl _) ((show Below wr.heap.size wr _ from (by repeat (first | exact Below.refl _ _ | assumption | refine below_drewN ?_ _ | refine Below.drew ?_ | refine Below.setCell ?_ (by first | omega | (simp; done) | (simp; omega)) _ | refine Below.alloc ?_ (by first | omega | (simp; done) | (simp; omega)) _))).trans (hb.mono (by first | omega | (simp; done) | (simp; omega)))))
        have hz3 := HB3.out.size
        have HX3 : Hid (Bx3 w3 w.heap.size ((ti : Int), (si : Int), cl)) := HXW.out _ ((show Below wr.heap.size wr _ from (by repeat (first | exact Below.refl _ _ | assumption | refine below_drewN ?_ _ | refine Below.drew ?_ | refine Below.setCell ?_ (by first | omega | (simp; done) | (simp; omega)) _ | refine Below.alloc ?_ (by first | omega | (simp; done) | (simp; omega)) _))).trans (hb.mono (by first | omega | (simp; done) | (simp; omega))))
        clear hb x0 x1 x2 xl HSN HDK HNR c1 c2
        cases v with
        | false =>
          go_wp2_with fail
          go_roundw
          case rel => exact ⟨⟨k + 1, D, dc, by omega, by go_num, by rw [HPS.out]; simp, Lib.hid (by rw [HPS.out]; simpa using HO3.out), HB3⟩, HX3⟩
          case measure => simp [intOf]; omega
        | true =>
          have HPT : Hid (pickL is (cellsL n (k + 1)) = pl ++ [(k : Int)]) := HPS.out
          have HOX := Lib.hid (own_below HO3.out (Nat.le_refl _) ((Below.refl w3.heap.size w3).alloc (Nat.le_refl _) (.cells #[.int .i64 (k : Int)] 3)))
          have HXA := Lib.hid (HX3.out.below ((Below.refl w3.heap.size w3).alloc (Nat.le_refl _) (.cells #[.int .i64 (k : Int)] 3)))
          go_wp2_with (at_builtin; go_must (refine wpList_append_lies _ rfl _ _ 27 rfl w1.heap.size 3 i0 (.int .i64 0) 1 8 Tryz.underlying27 hi hz0 hz1 hz2 rfl (by decide) (.slice D pl.length dc) pl.length _ rfl HOX.out _ 1 1 [.int .i64 (k : Int)] rfl rfl (World.news_of_block (heap_alloc_new w3 _)) (by intro u hu; rw [List.mem_singleton.1 hu]; rfl) (by decide) (by unfold maxLen; omega) (by omega) (by simp; omega) _ rfl ?_); intro g cap w6 hown6 hg6 hat6 hlt6; have z6 := hg6.size; (try simp at z6))
          go_roundw
          case rel =>
            refine ⟨⟨k + 1, some ⟨g, 0, none⟩, cap, by omega, by go_num, by rw [HPT.out, List.length_append]; rfl, Lib.hid ?_, Lib.hid ((HB3.out.alloc (by omega) _).grown hg6 (by simp; omega) (fun g h => (own_lt HO3.out h).1))⟩, ?_⟩
            · rw [HPT.out, List.length_append, show ints (pl ++ [(k : Int)]) = ints pl ++ [.int .i64 (k : Int)] by simp [ints]]
              exact hown6
            · exact Lib.hid ((hg6.block _ HXA.out.lt (fun e => by have h9 := (own_lt HO3.out (by first | exact e | exact e.symm)).1; omega)).trans HXA.out)
          case measure => simp [intOf]; omega
    · obtain rfl : k = N := by omega
      go_wp2_with (go_at_call 54; refine (HC.out _).mono ?_; rintro e w' ⟨rfl, rfl⟩)
      go_ret
      exact ⟨_, _, rfl, own_le HO.out HB1.out.size, HB1.out.trans (HB.out.mono HB1.out.size)⟩
set_option maxRecDepth 100000 in
set_option maxHeartbeats 8000000 in
theorem rCovers_ (L : List Scp) (A : Option Addr) (c : Nat) (n : Int) (x : V3) (w : World) (hL : Sl w w.heap.size 6 A L.length c (scsC L)) (hz : ∀ x ∈ L, Sl w w.heap.size 3 x.ZA x.zs.length x.zc (zsC x.zs)) (hs : ∀ x ∈ L, x.nm.size ≤ maxLen) (N : Nat) (hN : (N : Int) = 6 * (n * n)) :
    Calls Tryz.prog 41 #[.slice A L.length c, .int .i64 n, v3 x] w (FitOut (covE L n N x) (covL L n N x) w) := by
  obtain ⟨t, s, cl⟩ := x
  have HX0 : Hid (Bx3 (w.alloc (.cells #[.int .i64 t, .int .i64 s, .int .i64 cl] 66)) w.heap.size (t, s, cl)) := heap_alloc_new w _
  have HBX : Hid (Below w.heap.size w (w.alloc (.cells #[.int .i64 t, .int .i64 s, .int .i64 cl] 66))) := (Below.refl _ _).alloc (Nat.le_refl _) _
  have HL := Lib.hid (fun W (hW : Below w.heap.size w W) => (hL.below hW).more hW.size)
  have HZ := Lib.hid (fun W (hW : Below w.heap.size w W) => fun y hy => ((hz y hy).below hW).more hW.size)
  have HSC := Lib.hid (rscoped_ L A c n _ (HL.out _ HBX.out) (HZ.out _ HBX.out) hs)
  by_cases hg : gW L n = 0
  · obtain ⟨hb, h1, h8⟩ := gW_ok hg
    have hok := scsB_ok hb hs
    have HOK := Lib.hid hok
    rw [hg] at HSC
    obtain ⟨lk, hlk⟩ : ∃ b, lookB L n N (t, s, cl) = b := ⟨_, rfl⟩
    have HPL := Lib.hid (fun (PA : Option Addr) (pc : Nat) W (hW : Below w.heap.size w W) (hp : Sl W W.heap.size 3 PA [(t, s, cl)].length pc (zsC [(t, s, cl)])) => rplan_ L A c n [(t, s, cl)] PA pc W (HL.out W hW) (HZ.out W hW) hok h1 h8 N hN hp)
    rw [planB_one, hlk] at HPL
    have H1 := Lib.hid h1
    have H8 := Lib.hid h8
    have HNN := Lib.hid hN
    cases lk with
    | false =>
      have e : covE L n N (t, s, cl) = 94 := by unfold covE; rw [hg, hlk]; rfl
      have e2 : covL L n N (t, s, cl) = [] := by unfold covL; rw [if_neg (by rw [e]; decide)]
      rw [e, e2]
      clear hL hz hs hg hb hok hlk e e2 hN h1 h8
      go_enter Tryz.func41, Tryz.ntmps41
      go_wp2_with fail
      refine HSC.out.mono ?_
      rintro e w1 ⟨rfl, hb⟩
      have HB1 := Lib.hid (HBX.out.trans (hb.mono HBX.out.size))
      have HX1 := Lib.hid (HX0.out.below hb)
      clear hb
      have x0 := HX1.out.c0
      have x1 := HX1.out.c1
      have x2 := HX1.out.c2
      have xl := HX1.out.lt
      simp only at x0 x1 x2
      go_wp2_with fail
      have HT2 : Hid (Sl (w1.alloc (.cells #[.int .i64 t, .int .i64 s, .int .i64 cl] 66)) (w1.alloc (.cells #[.int .i64 t, .int .i64 s, .int .i64 cl] 66)).heap.size 3 (some ⟨w1.heap.size, 0, none⟩) [(t, s, cl)].length 1 (zsC [(t, s, cl)])) := sl_new (heap_alloc_new w1 _) rfl (by unfold maxLen; simp)
      have HB2 : Hid (Below w.heap.size w (w1.alloc (.cells #[.int .i64 t, .int .i64 s, .int .i64 cl] 66))) := HB1.out.alloc (by have := HB1.out.size; omega) _
      obtain ⟨w2, hw2⟩ : ∃ W, w1.alloc (.cells #[.int .i64 t, .int .i64 s, .int .i64 cl] 66) = W := ⟨_, rfl⟩
      rw [hw2] at HT2 HB2 ⊢
      refine (HPL.out _ _ w2 HB2.out HT2.out).mono ?_
      rintro e w3 ⟨rfl, hb⟩
      have HB3 := Lib.hid (HB2.out.trans (hb.mono HB2.out.size))
      clear hb hw2 x0 x1 x2 xl
      go_wp2_with fail
      go_ret2
      exact FitOut.none 94 HB3.out
    | true =>
      have e : covE L n N (t, s, cl) = 0 := by unfold covE; rw [hg, hlk]; rfl
      have e2 : covL L n N (t, s, cl) = coversX n N (scpAt L s) t.toNat cl := by unfold covL; rw [if_pos e]
      rw [e, e2]
      unfold lookB at hlk
      rw [Bool.and_eq_true] at hlk
      obtain ⟨ht, hc⟩ := hlk
      have hci := seesX_in (List.contains_iff_mem.1 hc)
      obtain ⟨si, ti, hsi, hte, hse, hti, hxe⟩ := turn_at hok ht
      simp only at hte hse hxe hci
      have HCV := Lib.hid (fun W (hW : Below w.heap.size w W) => rcovers_ L A c n cl si ti W (HL.out W hW) (HZ.out W hW) h1 h8 hsi hti N hN hci.1 hci.2)
      rw [hxe, ← hte, ← hse, show ti = t.toNat by omega] at HCV
      obtain ⟨V, hV⟩ : ∃ l, coversX n N (scpAt L s) t.toNat cl = l := ⟨_, rfl⟩
      rw [hV] at HCV ⊢
      clear hL hz hs hg hb hok e e2 hN h1 h8 ht hc hci hsi hte hse hti hxe hV
      go_enter Tryz.func41, Tryz.ntmps41
      go_wp2_with fail
      refine HSC.out.mono ?_
      rintro e w1 ⟨rfl, hb⟩
      have HB1 := Lib.hid (HBX.out.trans (hb.mono HBX.out.size))
      have HX1 := Lib.hid (HX0.out.below hb)
      clear hb
      have x0 := HX1.out.c0
      have x1 := HX1.out.c1
      have x2 := HX1.out.c2
      have xl := HX1.out.lt
      simp only at x0 x1 x2
      go_wp2_with fail
      have HT2 : Hid (Sl (w1.alloc (.cells #[.int .i64 t, .int .i64 s, .int .i64 cl] 66)) (w1.alloc (.cells #[.int .i64 t, .int .i64 s, .int .i64 cl] 66)).heap.size 3 (some ⟨w1.heap.size, 0, none⟩) [(t, s, cl)].length 1 (zsC [(t, s, cl)])) := sl_new (heap_alloc_new w1 _) rfl (by unfold maxLen; simp)
      have HB12 : Hid (Below w1.heap.size w1 (w1.alloc (.cells #[.int .i64 t, .int .i64 s, .int .i64 cl] 66))) := (Below.refl _ _).alloc (Nat.le_refl _) _
      have HB2 := Lib.hid (HB1.out.trans (HB12.out.mono HB1.out.size))
      have HX2 := Lib.hid (HX1.out.below HB12.out)
      obtain ⟨w2, hw2⟩ : ∃ W, w1.alloc (.cells #[.int .i64 t, .int .i64 s, .int .i64 cl] 66) = W := ⟨_, rfl⟩
      rw [hw2] at HT2 HB2 HX2 ⊢
      refine (HPL.out _ _ w2 HB2.out HT2.out).mono ?_
      rintro e w3 ⟨rfl, hb⟩
      have HB3 := Lib.hid (HB2.out.trans (hb.mono HB2.out.size))
      have HX3 := Lib.hid (HX2.out.below hb)
      clear hb hw2 x0 x1 x2 xl HB12
      have x0 := HX3.out.c0
      have x1 := HX3.out.c1
      have x2 := HX3.out.c2
      have xl := HX3.out.lt
      simp only at x0 x1 x2
      go_wp2_with fail
      refine (HCV.out w3 HB3.out).mono ?_
      rintro e w4 ⟨D, dc, rfl, hO, hb⟩
      have HO := Lib.hid hO
      have HB4 := Lib.hid (HB3.out.trans (hb.mono HB3.out.size))
      have HSZ := Lib.hid HB3.out.size
      clear hO hb x0 x1 x2 xl
      go_wp2_with fail
      go_ret2
      exact ⟨_, rfl, own_le HO.out HSZ.out, HB4.out⟩
  · have e : covE L n N (t, s, cl) = gW L n := by unfold covE; rw [if_neg (by simpa using hg)]
    have e2 : covL L n N (t, s, cl) = [] := by unfold covL; rw [if_neg (by rw [e]; exact hg)]
    rw [e, e2]
    obtain ⟨v, hv⟩ : ∃ v, gW L n = v := ⟨_, rfl⟩
    rw [hv] at HSC hg ⊢
    have hnz : (v != 0) = true := by simpa using hg
    clear hL hz hs hv e e2
    go_enter Tryz.func41, Tryz.ntmps41
    go_wp2_with fail
    refine HSC.out.mono ?_
    rintro e w1 ⟨rfl, hb⟩
    have HB := Lib.hid (HBX.out.trans (hb.mono HBX.out.size))
    clear hb
    go_wp2_with fail
    go_ret2
    exact FitOut.none v HB.out
end Go.Proofs.YtcclfhdglhbpcaaGreatDoor

/-
  The walk of the law SkyScopes.
-/
namespace Go.Proofs.YtcclfhdglhbpcaaGreatDoor
open Go.RowKit Al

set_option maxRecDepth 100000 in
set_option maxHeartbeats 8000000 in
theorem skyScopes_ (L : List Scp) (LA : Option Addr) (lc : Nat) (n : Int) (x : V3) (w : World) (hM : MxL w) (hL : Sl w w.heap.size 6 LA L.length lc (scsC L)) (hz : ∀ x ∈ L, Sl w w.heap.size 3 x.ZA x.zs.length x.zc (zsC x.zs)) (hs : ∀ x ∈ L, x.nm.size ≤ maxLen) :
    Calls Tryz.prog 10 #[.slice LA L.length lc, .int .i64 n, v3 x] w fun e w' => e = .returned (.bool true) ∧ Below w.heap.size w w' := by
  have HM := Lib.hid hM
  obtain ⟨t, s, cl⟩ := x
  obtain ⟨N, hN⟩ : ∃ N : Nat, (N : Int) = 6 * (n * n) := ⟨(6 * (n * n)).toNat, by have := Ring9.sq_nn n; omega⟩
  have HL := Lib.hid (fun W (hW : Below w.heap.size w W) => (hL.below hW).more hW.size)
  have HZ := Lib.hid (fun W (hW : Below w.heap.size w W) => fun y hy => ((hz y hy).below hW).more hW.size)
  have HA1 := Lib.hid (fun W (hW : Below w.heap.size w W) => checkScopes_ L LA lc W (HL.out W hW) (HZ.out W hW) hs)
  have HA2 := Lib.hid (fun W (hW : Below w.heap.size w W) => rCheckScopes_ L LA lc W (HL.out W hW) (HZ.out W hW) hs)
  have HS1 := Lib.hid (fun W (hW : Below w.heap.size w W) => Sees_ L LA lc t s n W (HL.out W hW) (HZ.out W hW) hs N hN)
  have HS2 := Lib.hid (fun W (hW : Below w.heap.size w W) => rSees_ L LA lc n t s W (HL.out W hW) (HZ.out W hW) hs N hN)
  have HC1 := Lib.hid (fun W (hW : Below w.heap.size w W) => Covers_ L LA lc n (t, s, cl) W (HL.out W hW) (HZ.out W hW) hs N hN)
  have HC2 := Lib.hid (fun W (hW : Below w.heap.size w W) => rCovers_ L LA lc n (t, s, cl) W (HL.out W hW) (HZ.out W hW) hs N hN)
  obtain ⟨sc, hsc⟩ : ∃ v, scE L = v := ⟨_, rfl⟩
  obtain ⟨v, hv⟩ : ∃ v, seesE L n t s = v := ⟨_, rfl⟩
  obtain ⟨F, hF⟩ : ∃ l, seesL L n t s N = l := ⟨_, rfl⟩
  obtain ⟨u, hu⟩ : ∃ v, covE L n N (t, s, cl) = v := ⟨_, rfl⟩
  obtain ⟨R, hR⟩ : ∃ l, covL L n N (t, s, cl) = l := ⟨_, rfl⟩
  rw [hsc] at HA1 HA2
  rw [hv, hF] at HS1 HS2
  rw [hu, hR] at HC1 HC2
  clear hM hL hz hs hsc hv hF hu hR hN
  go_enter Tryz.func10, Tryz.ntmps10
  go_wp2_with fail
  have HX : Hid (Bx3 (w.alloc (.cells #[.int .i64 t, .int .i64 s, .int .i64 cl] 66)) w.heap.size (t, s, cl)) := heap_alloc_new w _
  have HBW : Hid (Below w.heap.size w (w.alloc (.cells #[.int .i64 t, .int .i64 s, .int .i64 cl] 66))) := (Below.refl _ _).alloc (Nat.le_refl _) _
  obtain ⟨wb, hwb⟩ : ∃ wb, w.alloc (.cells #[.int .i64 t, .int .i64 s, .int .i64 cl] 66) = wb := ⟨_, rfl⟩
  rw [hwb] at HX HBW ⊢
  have hvl : w.heap.size ≤ wb.heap.size := HBW.out.size
  obtain ⟨vb, hvb⟩ : ∃ b, w.heap.size = b := ⟨_, rfl⟩
  rw [hvb] at HX ⊢
  clear hwb hvb
  refine (HA1.out wb HBW.out).mono ?_
  rintro e w1 ⟨rfl, hb⟩
  have HB1 := Lib.hid (HBW.out.trans (hb.mono hvl))
  have HX1 := Lib.hid (HX.out.below hb)
  clear hb HX
  go_wp2_with fail
  refine (HA2.out w1 HB1.out).mono ?_
  rintro e w2 ⟨rfl, hb⟩
  have HB2 := Lib.hid (Below.tr HB1.out hb)
  have HX2 := Lib.hid (HX1.out.below hb)
  clear hb HX1
  have x0 := HX2.out.c0
  have x1 := HX2.out.c1
  have xl := HX2.out.lt
  simp only at x0 x1
  go_wp2_with fail
  refine (HS1.out w2 HB2.out).mono ?_
  rintro e w3 ⟨s3, rfl, ho, hb⟩
  obtain ⟨A3, c3, rfl⟩ := own_form ho
  have S3 := Lib.hid (Sl.of_own ho)
  have HB3 := Lib.hid (Below.tr HB2.out hb)
  have HX3 := Lib.hid (HX2.out.below hb)
  clear ho hb x0 x1 xl HX2
  have x0 := HX3.out.c0
  have x1 := HX3.out.c1
  have xl := HX3.out.lt
  simp only at x0 x1
  go_wp2_with fail
  refine (HS2.out w3 HB3.out).mono ?_
  rintro e w4 ⟨s4, rfl, ho, hb⟩
  obtain ⟨A4, c4, rfl⟩ := own_form ho
  have S4 := Lib.hid (Sl.of_own ho)
  have S3' := Lib.hid (S3.out.bT hb)
  have HB4 := Lib.hid (Below.tr HB3.out hb)
  have HX4 := Lib.hid (HX3.out.below hb)
  clear ho hb x0 x1 xl HX3 S3
  go_wp2_with fail
  refine (SameInts_is F F A3 c3 A4 c4 w4 true (by simp) S3'.out S4.out).mono ?_
  rintro e w5 ⟨rfl, hb⟩
  have HB5 := Lib.hid (Below.tr HB4.out hb)
  have HX5 := Lib.hid (HX4.out.below hb)
  clear hb HX4 S3' S4
  have x0 := HX5.out.c0
  have x1 := HX5.out.c1
  have x2 := HX5.out.c2
  have xl := HX5.out.lt
  simp only at x0 x1 x2
  go_wp2_with fail
  refine (HC1.out w5 HB5.out).mono ?_
  rintro e w6 ⟨A6, c6, rfl, hs6, hb⟩
  have S6 := Lib.hid hs6
  have HB6 := Lib.hid (Below.tr HB5.out hb)
  have HX6 := Lib.hid (HX5.out.below hb)
  clear hs6 hb x0 x1 x2 xl HX5
  have x0 := HX6.out.c0
  have x1 := HX6.out.c1
  have x2 := HX6.out.c2
  have xl := HX6.out.lt
  simp only at x0 x1 x2
  go_wp2_with fail
  refine (HC2.out w6 HB6.out).mono ?_
  rintro e w7 ⟨s7, rfl, ho, hb⟩
  obtain ⟨A7, c7, rfl⟩ := own_form ho
  have S7 := Lib.hid (Sl.of_own ho)
  have S6' := Lib.hid (S6.out.bT hb)
  have HB7 := Lib.hid (Below.tr HB6.out hb)
  clear ho hb x0 x1 x2 xl HX6 S6
  go_wp2_with fail
  refine (SameInts_is R R A6 c6 A7 c7 w7 true (by simp) S6'.out S7.out).mono ?_
  rintro e w8 ⟨rfl, hb⟩
  have HB8 := Lib.hid (Below.tr HB7.out hb)
  clear hb S6' S7
  go_wp2_with fail
  refine (works_ _ (HM.out.below HB8.out (Nat.le_refl _))).mono ?_
  rintro e w9 ⟨rfl, hb⟩
  have HB9 := Lib.hid (Below.tr HB8.out hb)
  clear hb
  go_wp2_with fail
  go_ret
  exact ⟨rfl, HB9.out⟩
end Go.Proofs.YtcclfhdglhbpcaaGreatDoor
