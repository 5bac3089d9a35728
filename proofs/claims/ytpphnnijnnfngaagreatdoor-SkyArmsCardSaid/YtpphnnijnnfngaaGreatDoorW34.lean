/-
  Natural numbers of package num: quotient, greatest common divisor, lowest terms for numbers of any size.
-/
import Derived.Test.YtpphnnijnnfngaaGreatDoorW33
import Derived.Test.YtpphnnijnnfngaaGreatDoorW02
import Derived.Test.YtpphnnijnnfngaaGreatDoorW03
namespace Go.Proofs.YtpphnnijnnfngaaGreatDoor
open Go.RowKit Al Nat9

theorem overG_ (x y : Nat) (A D : Option Addr) (c d : Nat) (w : World) (ha : NaIn w A c x) (hb : NaIn w D d y) (hy : 0 < y) (hx : (dg x).length ≤ 524288) : Calls Tryz.prog 90 #[.slice A (dg x).length c, .slice D (dg y).length d] w (NaPT (x / y) (x % y) w) := by
  rcases Nat.lt_or_ge x y with h | h
  · exact over_lt x y A D c d w ha hb h
  · rcases Nat.lt_or_ge y 1000000000 with h9 | h9
    · exact over_one x y A D c d w ha hb hy h h9 (by omega)
    · exact over_long x y A D c d w ha hb h h9 hx
/-- What a slice's digits say: the measure of Euclid's loop. -/
def valU (b : Value) (wr : World) : Nat :=
  match b with
  | .slice (some p) n _ => val ((List.range n).map fun j => match wr.cell? ⟨p.block, p.off + j, none⟩ with | some (.int _ z) => z.toNat | _ => 0)
  | _ => 0
theorem valU_is {w : World} {D : Option Addr} {d v : Nat} (h : NaIn w D d v) : valU (.slice D (dg v).length d) w = v := by
  by_cases h0 : v = 0
  · subst h0
    rw [dg_zero]
    unfold valU
    cases D <;> rfl
  · have hl : 0 < (dg v).length := Nat.pos_of_ne_zero (fun e => h0 (dg_len0.1 e))
    obtain ⟨b, o, e, _⟩ := S64.u64_at h hl
    subst e
    have key : (List.range (dg v).length).map (fun j => match w.cell? ⟨b, o + j, none⟩ with | some (.int _ z) => z.toNat | _ => 0) = dg v := by
      refine List.ext_getElem (by simp) (fun j h1 h2 => ?_)
      obtain ⟨b', o', e', _, hc⟩ := S64.u64_at h h2
      cases e'
      rw [List.getElem_map, List.getElem_range]
      show (match w.cell? ⟨b, o + j, none⟩ with | some (.int _ z) => z.toNat | _ => 0) = _
      rw [hc]
      rfl
    show val ((List.range (dg v).length).map fun j => match w.cell? ⟨b, o + j, none⟩ with | some (.int _ z) => z.toNat | _ => 0) = v
    rw [key, val_dg]
def GcdRelG (x y : Nat) (w : World) (a b : Value) (wr : World) : Prop :=
  ∃ (u v : Nat) (A D : Option Addr) (c d : Nat), a = .slice A (dg u).length c ∧ b = .slice D (dg v).length d ∧ (dg u).length ≤ 524288 ∧ (dg v).length ≤ 524288 ∧ Nat.gcd u v = Nat.gcd x y ∧ Hid (NaIn wr A c u) ∧ Hid (NaIn wr D d v) ∧ Hid (Below w.heap.size w wr)
set_option maxRecDepth 100000 in
set_option maxHeartbeats 4000000 in
theorem commonG_ (x y : Nat) (A D : Option Addr) (c d : Nat) (w : World) (ha : NaIn w A c x) (hb : NaIn w D d y) (hx9 : (dg x).length ≤ 524288) (hy9 : (dg y).length ≤ 524288) : Calls Tryz.prog 89 #[.slice A (dg x).length c, .slice D (dg y).length d] w (NaT (Nat.gcd x y) w) := by
  have HA := Lib.hid ha
  have HB := Lib.hid hb
  clear ha hb
  go_enter Tryz.func89, Tryz.ntmps89
  go_wp2_with fail
  go_loopw [0, 1] (fun a b wr => GcdRelG x y w a b wr) (fun _ b wr => valU b wr)
  case atStart => exact ⟨x, y, A, D, c, d, rfl, rfl, hx9, hy9, rfl, HA, HB, Lib.hid (Below.refl _ _)⟩
  case round =>
    obtain ⟨u, v, A1, D1, c1, d1, rfl, rfl, hu, hv, hg, HA1, HB1, HW⟩ := hrel
    have hsz := HW.out.size
    by_cases h0 : 0 < v
    · have hl : 0 < (dg v).length := by
        rcases Nat.eq_zero_or_pos (dg v).length with h | h
        · have := dg_len0.1 h
          omega
        · exact h
      have hl2 : (0 : Int) < ((dg v).length : Int) := by omega
      have HO := Lib.hid (overG_ u v A1 D1 c1 d1 wr HA1.out HB1.out h0 hu)
      have hmod := Nat.mod_lt u h0
      have hml := Nat.le_trans (dg_len_mono (Nat.le_of_lt hmod)) hv
      have HH := Lib.hid (valU_is HB1.out)
      have HG : Hid (Nat.gcd v (u % v) = Nat.gcd x y) := by
        show _ = _
        rw [← hg, Nat.gcd_comm u v, Nat.gcd_rec v u, Nat.gcd_comm]
      go_wp2_with fail
      refine HO.out.mono ?_
      rintro e w2 ⟨Q, qc, R, rc, rfl, -, hr, hb⟩
      have HR := Lib.hid hr
      have HB2 := Lib.hid (HB1.out.below hb)
      have HW2 := Lib.hid (HW.out.trans (hb.mono hsz))
      clear hr hb
      go_wp2_with fail
      go_roundw
      case rel => exact ⟨v, u % v, D1, R, d1, rc, rfl, rfl, hv, hml, HG.out, HB2, HR, HW2⟩
      case measure =>
        rw [valU_is HR.out, HH.out]
        exact hmod
    · obtain rfl : v = 0 := by omega
      have hl : (dg 0).length = 0 := by rw [dg_zero]; rfl
      rw [Nat.gcd_zero_right] at hg
      go_wp2_with fail
      go_ret
      refine ⟨A1, c1, by rw [← hg]; rfl, ?_, HW.out⟩
      rw [← hg]
      exact HA1.out
set_option maxRecDepth 100000 in
set_option maxHeartbeats 8000000 in
theorem reducedG_ (m : Bool) (x y : Nat) (A D : Option Addr) (c d : Nat) (w : World) (ha : NaIn w A c x) (hb : NaIn w D d y) (hx9 : (dg x).length ≤ 524288) (hy0 : 0 < y) (hy9 : (dg y).length ≤ 524288) :
    Calls Tryz.prog 60 #[.bool m, .slice A (dg x).length c, .slice D (dg y).length d] w (RatT (red m x y) w) := by
  have HA := Lib.hid ha
  have HB := Lib.hid hb
  clear ha hb
  unfold red
  by_cases h0 : x = 0
  · subst h0
    rw [if_pos rfl]
    have hl : (dg 0).length = 0 := by rw [dg_zero]; rfl
    have hl1 : (dg 1).length = 1 := by rw [dg_one]; rfl
    go_enter Tryz.func60, Tryz.ntmps60
    go_wp2_with fail
    refine (one_ _).mono ?_
    rintro e w1 ⟨Q, qc, rfl, hq, hb⟩
    have HQ := Lib.hid hq
    have HBX : Hid (Below (w.heap.size + 1) (w.alloc (.cells #[.bool false, .slice none 0 0, .slice none 0 0] 69)) w1) := by
      show Below _ _ _
      simpa using hb
    have HW : Hid (Below w.heap.size w w1) := (show Below w.heap.size w _ from (by repeat (first | exact Below.refl _ _ | assumption | refine below_drewN ?_ _ | refine Below.drew ?_ | refine Below.setCell ?_ (by first | omega | (simp; done) | (simp; omega)) _ | refine Below.alloc ?_ (by first | omega | (simp; done) | (simp; omega)) _))).trans (hb.mono (by simp))
    clear hq hb
    obtain ⟨-, q0, q1, q2, f0, f1, f2, hlt⟩ := box_cells HBX.out
    go_wp2_with fail
    refine bodyPost_ret (v := .agg #[.bool false, .slice none 0 0, .slice Q 1 qc]) (by simp [results, Tryz.results60, go_sem, q0, q1, q2]) rfl ⟨none, 0, Q, qc, by rw [hl, hl1], ?_, box_keeps HBX.out HQ.out _ _ _, (by repeat (first | exact Below.refl _ _ | exact (HW).out | refine below_drewN ?_ _ | refine Below.drew ?_ | refine Below.setCell ?_ (by first | omega | (simp; done) | (simp; omega)) _ | refine Below.alloc ?_ (by first | omega | (simp; done) | (simp; omega)) _))⟩
    exact na_zero _
  · rw [if_neg h0]
    have hlx : 0 < (dg x).length := Nat.pos_of_ne_zero (fun h => h0 (dg_len0.1 h))
    have hg0 : 0 < Nat.gcd x y := Nat.gcd_pos_of_pos_right _ hy0
    obtain ⟨g, hg⟩ : ∃ g, Nat.gcd x y = g := ⟨_, rfl⟩
    rw [hg] at hg0 ⊢
    have hlg0 : 0 < (dg g).length := Nat.pos_of_ne_zero (fun h => by have := dg_len0.1 h; omega)
    obtain ⟨lg, hlg⟩ : ∃ l, (dg g).length = l := ⟨_, rfl⟩
    rw [hlg] at hlg0
    have HLG := Lib.hid hlg
    clear hlg
    have t0 : ((dg x).length == 0) = false := beq_eq_false_iff_ne.2 (by omega)
    have t1 : (((dg x).length : Int) == 0) = false := beq_eq_false_iff_ne.2 (by omega)
    have HCM : Hid (∀ W, Below w.heap.size w W → Calls Tryz.prog 89 #[.slice A (dg x).length c, .slice D (dg y).length d] W (NaT g W)) := fun W hW => by
      have h := commonG_ x y A D c d W (HA.out.below hW) (HB.out.below hW) hx9 hy9
      rw [hg] at h
      exact h
    clear hg
    go_enter Tryz.func60, Tryz.ntmps60
    go_wp2_with fail
    refine (HCM.out _ (by repeat (first | exact Below.refl _ _ | assumption | refine below_drewN ?_ _ | refine Below.drew ?_ | refine Below.setCell ?_ (by first | omega | (simp; done) | (simp; omega)) _ | refine Below.alloc ?_ (by first | omega | (simp; done) | (simp; omega)) _))).mono ?_
    rintro e w1 ⟨G, gc, rfl, hn, hb⟩
    have HG := Lib.hid hn
    have HBX : Hid (Below (w.heap.size + 1) (w.alloc (.cells #[.bool false, .slice none 0 0, .slice none 0 0] 69)) w1) := by
      show Below _ _ _
      simpa using hb
    have HW : Hid (Below w.heap.size w w1) := (show Below w.heap.size w _ from (by repeat (first | exact Below.refl _ _ | assumption | refine below_drewN ?_ _ | refine Below.drew ?_ | refine Below.setCell ?_ (by first | omega | (simp; done) | (simp; omega)) _ | refine Below.alloc ?_ (by first | omega | (simp; done) | (simp; omega)) _))).trans (hb.mono (by simp))
    have hsz := HW.out.size
    clear hn hb
    obtain ⟨gb, go, rfl, hgb, z1⟩ := S64.u64_at HG.out (k := 0) (by rw [HLG.out]; exact hlg0)
    rw [Nat.add_zero] at z1
    rw [HLG.out]
    rcases Nat.lt_or_ge 1 lg with hl1 | hl1
    · have hl2 : (1 : Int) < (lg : Int) := by omega
      clear z1
      have z2 : True := trivial
      have HO1 : Hid (∀ W, Below w1.heap.size w1 W → Calls Tryz.prog 90 #[.slice A (dg x).length c, .slice (some ⟨gb, go, none⟩) lg gc] W (NaPT (x / g) (x % g) W)) := fun W hW => by
        have h := overG_ x g A (some ⟨gb, go, none⟩) c gc W ((HA.out.below HW.out).below hW) (HG.out.below hW) hg0 hx9
        rw [HLG.out] at h
        exact h
      have HO2 : Hid (∀ W, Below w1.heap.size w1 W → Calls Tryz.prog 90 #[.slice D (dg y).length d, .slice (some ⟨gb, go, none⟩) lg gc] W (NaPT (y / g) (y % g) W)) := fun W hW => by
        have h := overG_ y g D (some ⟨gb, go, none⟩) d gc W ((HB.out.below HW.out).below hW) (HG.out.below hW) hg0 hy9
        rw [HLG.out] at h
        exact h
      go_wp2_with fail
      refine (HO1.out _ (Below.refl _ _)).mono ?_
      rintro e w2 ⟨Q, qc, R, rc, rfl, hq, -, hb⟩
      have HQ := Lib.hid hq
      have HW2 := Lib.hid hb
      have hsz2 := hb.size
      clear hq hb z2
      go_wp2_with fail
      refine (HO2.out _ HW2.out).mono ?_
      rintro e w3 ⟨Q2, qc2, R2, rc2, rfl, hq, -, hb⟩
      have HQ2 := Lib.hid hq
      have HQ1 := Lib.hid (HQ.out.below hb)
      have HW3 := Lib.hid (HW2.out.trans (hb.mono hsz2))
      have hsz3 := HW3.out.size
      clear hq hb
      have HBX3 : Hid (Below (w.heap.size + 1) (w.alloc (.cells #[.bool false, .slice none 0 0, .slice none 0 0] 69)) w3) := HBX.out.trans (HW3.out.mono (by have := HBX.out.size; simp at this; omega))
      have HWW : Hid (Below w.heap.size w w3) := HW.out.trans (HW3.out.mono hsz)
      obtain ⟨-, q0, q1, q2, f0, f1, f2, hlt⟩ := box_cells HBX3.out
      go_wp2_with fail
      refine bodyPost_ret (v := .agg #[.bool m, .slice Q (dg (x / g)).length qc, .slice Q2 (dg (y / g)).length qc2]) (by simp [results, Tryz.results60, go_sem, q0, q1, q2]) rfl ⟨Q, qc, Q2, qc2, rfl, box_keeps HBX3.out HQ1.out _ _ _, box_keeps HBX3.out HQ2.out _ _ _, (by repeat (first | exact Below.refl _ _ | exact (HWW).out | refine below_drewN ?_ _ | refine Below.drew ?_ | refine Below.setCell ?_ (by first | omega | (simp; done) | (simp; omega)) _ | refine Below.alloc ?_ (by first | omega | (simp; done) | (simp; omega)) _))⟩
    · obtain rfl : lg = 1 := by omega
      have hg9 : g < 1000000000 := by
        have h := dg_room g
        rw [HLG.out] at h
        omega
      have z2 : w1.cell? ⟨gb, go, none⟩ = some (.int .u64 (g : Int)) := by
        rw [z1]
        congr 2
        have e := getElem_congr_coll (i := 0) (dg_small hg0 hg9) (w := by rw [HLG.out]; exact hlg0)
        rw [e]
        rfl
      clear z1
      by_cases hg1 : g = 1
      · subst hg1
        rw [Nat.div_one, Nat.div_one]
        obtain ⟨-, q0, q1, q2, f0, f1, f2, hlt⟩ := box_cells HBX.out
        go_wp2_with fail
        refine bodyPost_ret (v := .agg #[.bool m, .slice A (dg x).length c, .slice D (dg y).length d]) (by simp [results, Tryz.results60, go_sem, q0, q1, q2]) rfl ⟨A, c, D, d, (by first | rfl | simp), (by first | exact box_keeps HBX.out (HA.out.below HW.out) _ _ _ | (show NaIn _ A c (x / 1); rw [Nat.div_one]; exact box_keeps HBX.out (HA.out.below HW.out) _ _ _)), (by first | exact box_keeps HBX.out (HB.out.below HW.out) _ _ _ | (show NaIn _ D d (y / 1); rw [Nat.div_one]; exact box_keeps HBX.out (HB.out.below HW.out) _ _ _)), (by repeat (first | exact Below.refl _ _ | exact (HW).out | refine below_drewN ?_ _ | refine Below.drew ?_ | refine Below.setCell ?_ (by first | omega | (simp; done) | (simp; omega)) _ | refine Below.alloc ?_ (by first | omega | (simp; done) | (simp; omega)) _))⟩
      · have hgl : (1 : Int) < (g : Int) := by omega
        have HO1 : Hid (∀ W, Below w1.heap.size w1 W → Calls Tryz.prog 90 #[.slice A (dg x).length c, .slice (some ⟨gb, go, none⟩) 1 gc] W (NaPT (x / g) (x % g) W)) := fun W hW => by
          have h := overG_ x g A (some ⟨gb, go, none⟩) c gc W ((HA.out.below HW.out).below hW) (HG.out.below hW) hg0 hx9
          rw [HLG.out] at h
          exact h
        have HO2 : Hid (∀ W, Below w1.heap.size w1 W → Calls Tryz.prog 90 #[.slice D (dg y).length d, .slice (some ⟨gb, go, none⟩) 1 gc] W (NaPT (y / g) (y % g) W)) := fun W hW => by
          have h := overG_ y g D (some ⟨gb, go, none⟩) d gc W ((HB.out.below HW.out).below hW) (HG.out.below hW) hg0 hy9
          rw [HLG.out] at h
          exact h
        go_wp2_with fail
        refine (HO1.out _ (Below.refl _ _)).mono ?_
        rintro e w2 ⟨Q, qc, R, rc, rfl, hq, -, hb⟩
        have HQ := Lib.hid hq
        have HW2 := Lib.hid hb
        have hsz2 := hb.size
        clear hq hb z2
        go_wp2_with fail
        refine (HO2.out _ HW2.out).mono ?_
        rintro e w3 ⟨Q2, qc2, R2, rc2, rfl, hq, -, hb⟩
        have HQ2 := Lib.hid hq
        have HQ1 := Lib.hid (HQ.out.below hb)
        have HW3 := Lib.hid (HW2.out.trans (hb.mono hsz2))
        have hsz3 := HW3.out.size
        clear hq hb
        have HBX3 : Hid (Below (w.heap.size + 1) (w.alloc (.cells #[.bool false, .slice none 0 0, .slice none 0 0] 69)) w3) := HBX.out.trans (HW3.out.mono (by have := HBX.out.size; simp at this; omega))
        have HWW : Hid (Below w.heap.size w w3) := HW.out.trans (HW3.out.mono hsz)
        obtain ⟨-, q0, q1, q2, f0, f1, f2, hlt⟩ := box_cells HBX3.out
        go_wp2_with fail
        refine bodyPost_ret (v := .agg #[.bool m, .slice Q (dg (x / g)).length qc, .slice Q2 (dg (y / g)).length qc2]) (by simp [results, Tryz.results60, go_sem, q0, q1, q2]) rfl ⟨Q, qc, Q2, qc2, rfl, box_keeps HBX3.out HQ1.out _ _ _, box_keeps HBX3.out HQ2.out _ _ _, (by repeat (first | exact Below.refl _ _ | exact (HWW).out | refine below_drewN ?_ _ | refine Below.drew ?_ | refine Below.setCell ?_ (by first | omega | (simp; done) | (simp; omega)) _ | refine Below.alloc ?_ (by first | omega | (simp; done) | (simp; omega)) _))⟩
end Go.Proofs.YtpphnnijnnfngaaGreatDoor

/-
  Rational numbers of package num: plus and compare for numbers of any size.
-/
namespace Go.Proofs.YtpphnnijnnfngaaGreatDoor
open Go.RowKit Al Nat9

/-- A rational number whose parts have at most K digits to the base 10^9. -/
structure RLn (K : Nat) (r : Rat9) : Prop where
  n : (dg r.n).length ≤ K
  d : (dg r.d).length ≤ K
  d0 : 0 < r.d
theorem RLn.neg {K : Nat} {r : Rat9} (h : RLn K r) : RLn K r.neg := ⟨h.n, h.d, h.d0⟩
theorem RLn.more {K K' : Nat} {r : Rat9} (h : RLn K r) (hk : K ≤ K') : RLn K' r := ⟨Nat.le_trans h.n hk, Nat.le_trans h.d hk, h.d0⟩
theorem RLn.red {K : Nat} (hK : 1 ≤ K) (m : Bool) {n d : Nat} (h1 : (dg n).length ≤ K) (h2 : (dg d).length ≤ K) (h0 : 0 < d) : RLn K (red m n d) := by
  unfold Nat9.red
  split
  · exact ⟨by rw [dg_zero]; exact Nat.zero_le _, by rw [dg_one]; exact hK, by decide⟩
  · exact ⟨Nat.le_trans (dg_len_mono (Nat.div_le_self _ _)) h1, Nat.le_trans (dg_len_mono (Nat.div_le_self _ _)) h2, Nat.div_pos (Nat.le_of_dvd h0 (Nat.gcd_dvd_right _ _)) (Nat.gcd_pos_of_pos_right _ h0)⟩
theorem RLn.add {K : Nat} {a b : Rat9} (ha : RLn K a) (hb : RLn K b) (hK : 1 ≤ K) : RLn (2 * K + 1) (a.add b) := by
  have h1 := ha.n
  have h2 := ha.d
  have h3 := hb.n
  have h4 := hb.d
  have l1 := dg_len_mul a.n b.d
  have l2 := dg_len_mul b.n a.d
  have l3 := dg_len_mul a.d b.d
  unfold Rat9.add
  refine RLn.red (by omega) _ ?_ (by omega) (Nat.mul_pos ha.d0 hb.d0)
  unfold addS
  split
  · have := dg_len_add (a.n * b.d) (b.n * a.d)
    show (dg (a.n * b.d + b.n * a.d)).length ≤ _; omega
  · split
    · have := dg_len_mono (Nat.sub_le (a.n * b.d) (b.n * a.d))
      show (dg (a.n * b.d - b.n * a.d)).length ≤ _; omega
    · have := dg_len_mono (Nat.sub_le (b.n * a.d) (a.n * b.d))
      show (dg (b.n * a.d - a.n * b.d)).length ≤ _; omega
set_option maxRecDepth 100000 in
set_option maxHeartbeats 8000000 in
theorem rplusG_ (a b : Rat9) (A1 D1 A2 D2 : Option Addr) (c1 d1 c2 d2 : Nat) (w : World) (ha : RIn w a A1 c1 D1 d1) (hb : RIn w b A2 c2 D2 d2) (hla : RLn 100000 a) (hlb : RLn 100000 b) :
    Calls Tryz.prog 54 #[a.val A1 c1 D1 d1, b.val A2 c2 D2 d2] w (RatT (a.add b) w) := by
  have HA := Lib.hid ha
  have HB := Lib.hid hb
  clear ha hb
  have ha1 := hla.n
  have ha2 := hla.d
  have ha3 := hla.d0
  have hb1 := hlb.n
  have hb2 := hlb.d
  have hb3 := hlb.d0
  clear hla hlb
  obtain ⟨p1, hp1⟩ : ∃ p, a.n * b.d = p := ⟨_, rfl⟩
  obtain ⟨p2, hp2⟩ : ∃ p, b.n * a.d = p := ⟨_, rfl⟩
  obtain ⟨p3, hp3⟩ : ∃ p, a.d * b.d = p := ⟨_, rfl⟩
  have l1 : (dg p1).length ≤ 200000 := by rw [← hp1]; have := dg_len_mul a.n b.d; omega
  have l2 : (dg p2).length ≤ 200000 := by rw [← hp2]; have := dg_len_mul b.n a.d; omega
  have l3 : (dg p3).length ≤ 200000 := by rw [← hp3]; have := dg_len_mul a.d b.d; omega
  have l4 : 0 < p3 := by rw [← hp3]; exact Nat.mul_pos ha3 hb3
  obtain ⟨s, hs⟩ : ∃ s, addS a.m p1 b.m p2 = s := ⟨_, rfl⟩
  have l5 : (dg s.2).length ≤ 524288 := by
    rw [← hs]
    unfold addS
    split
    · have := dg_len_add p1 p2
      show (dg (p1 + p2)).length ≤ _; omega
    · split
      · have := dg_len_mono (Nat.sub_le p1 p2)
        show (dg (p1 - p2)).length ≤ _; omega
      · have := dg_len_mono (Nat.sub_le p2 p1)
        show (dg (p2 - p1)).length ≤ _; omega
  have hadd : a.add b = red s.1 s.2 p3 := by
    unfold Rat9.add
    rw [hp1, hp2, hp3, hs]
  obtain ⟨r, hr⟩ : ∃ r, red s.1 s.2 p3 = r := ⟨_, rfl⟩
  rw [hadd, hr]
  have HRR := Lib.hid hr
  clear hr
  have HT1 : Hid (∀ W, Below w.heap.size w W → Calls Tryz.prog 83 #[.slice A1 (dg a.n).length c1, .slice D2 (dg b.d).length d2] W (NaT p1 W)) := fun W hW => hp1 ▸ times_ a.n b.d A1 D2 c1 d2 W (HA.out.below hW).n (HB.out.below hW).d (by omega) (by omega)
  have HT2 : Hid (∀ W, Below w.heap.size w W → Calls Tryz.prog 83 #[.slice A2 (dg b.n).length c2, .slice D1 (dg a.d).length d1] W (NaT p2 W)) := fun W hW => hp2 ▸ times_ b.n a.d A2 D1 c2 d1 W (HB.out.below hW).n (HA.out.below hW).d (by omega) (by omega)
  have HT3 : Hid (∀ W, Below w.heap.size w W → Calls Tryz.prog 83 #[.slice D1 (dg a.d).length d1, .slice D2 (dg b.d).length d2] W (NaT p3 W)) := fun W hW => hp3 ▸ times_ a.d b.d D1 D2 d1 d2 W (HA.out.below hW).d (HB.out.below hW).d (by omega) (by omega)
  have HS := Lib.hid hs
  clear hadd hs hp1 hp2 hp3 ha1 ha2 ha3 hb1 hb2 hb3
  obtain ⟨am, an, ad⟩ := a
  obtain ⟨bm, bn, bd⟩ := b
  simp only at HT1 HT2 HT3 HS
  go_enter Tryz.func54, Tryz.ntmps54
  go_upto_region 1 with fail
  obtain ⟨X, hX⟩ : ∃ X, (((w.alloc (.cells #[.bool am, .slice A1 (dg an).length c1, .slice D1 (dg ad).length d1] 69)).alloc (.cells #[.bool bm, .slice A2 (dg bn).length c2, .slice D2 (dg bd).length d2] 69)).alloc (.cells #[.bool false, .slice none 0 0, .slice none 0 0] 69)) = X := ⟨_, rfl⟩
  have HX : Hid (Below w.heap.size w X) := by show Below _ _ _; rw [← hX]; exact (by repeat (first | exact Below.refl _ _ | assumption | refine below_drewN ?_ _ | refine Below.drew ?_ | refine Below.setCell ?_ (by first | omega | (simp; done) | (simp; omega)) _ | refine Below.alloc ?_ (by first | omega | (simp; done) | (simp; omega)) _))
  have x0 : X.cell? ⟨w.heap.size, 0, none⟩ = some (.bool am) := by rw [← hX]; simp [go_sem]
  have x1 : X.cell? ⟨w.heap.size, 1, none⟩ = some (.slice A1 (dg an).length c1) := by rw [← hX]; simp [go_sem]
  have x2 : X.cell? ⟨w.heap.size, 2, none⟩ = some (.slice D1 (dg ad).length d1) := by rw [← hX]; simp [go_sem]
  have y0 : X.cell? ⟨w.heap.size + 1, 0, none⟩ = some (.bool bm) := by rw [← hX]; simp [go_sem]
  have y1 : X.cell? ⟨w.heap.size + 1, 1, none⟩ = some (.slice A2 (dg bn).length c2) := by rw [← hX]; simp [go_sem]
  have y2 : X.cell? ⟨w.heap.size + 1, 2, none⟩ = some (.slice D2 (dg bd).length d2) := by rw [← hX]; simp [go_sem]
  have hXs : X.heap.size = w.heap.size + 1 + 1 + 1 := by rw [← hX]; simp
  have hx0 : w.heap.size < X.heap.size := by omega
  have hx1 : w.heap.size + 1 < X.heap.size := by omega
  rw [hX]
  go_region_held3 (fun w' => ∀ k o, k < X.heap.size → w'.cell? ⟨k, o, none⟩ = X.cell? ⟨k, o, none⟩) (first | exact kN | exact fun k o h => rfl)
    (first
      | (go_at_call 83; (with_reducible show Calls _ _ #[Value.slice A2 (dg bn).length c2, Value.slice D1 (dg ad).length d1] _ _); refine (HT2.out _ (HX.out.trans ((HBw4.out.trans ((show Below w4.heap.size w4 _ from (by (repeat (first | exact Below.refl _ _ | assumption | refine below_drewN ?_ _ | refine Below.drew ?_ | refine Below.setCell ?_ (by first | omega | (simp; done) | (simp; omega)) _ | refine Below.alloc ?_ (by first | omega | (simp; done) | (simp; omega)) _)))).mono HBw4.out.size)).mono (by omega)))).mono ?_; intro e w5 hnt; obtain ⟨Q, qc, he, hq, hbn⟩ := hnt; subst he; have Hw5 := Lib.hid hq; have HBw5 : Hid (Below w4.heap.size w4 w5) := (show Below w4.heap.size w4 _ from (by (repeat (first | exact Below.refl _ _ | assumption | refine below_drewN ?_ _ | refine Below.drew ?_ | refine Below.setCell ?_ (by first | omega | (simp; done) | (simp; omega)) _ | refine Below.alloc ?_ (by first | omega | (simp; done) | (simp; omega)) _)))).trans (hbn.mono (by first | omega | (simp; done) | (simp; omega))); have kN := (fun k o (h : k < X.heap.size) => (HBw4.out.trans (HBw5.out.mono HBw4.out.size)).cell (p := ⟨k, o, none⟩) h); clear hq hbn)
      | (go_at_call 83; (with_reducible show Calls _ _ #[Value.slice A1 (dg an).length c1, Value.slice D2 (dg bd).length d2] _ _); refine (HT1.out _ (HX.out.trans ((show Below X.heap.size X _ from (by (repeat (first | exact Below.refl _ _ | assumption | refine below_drewN ?_ _ | refine Below.drew ?_ | refine Below.setCell ?_ (by first | omega | (simp; done) | (simp; omega)) _ | refine Below.alloc ?_ (by first | omega | (simp; done) | (simp; omega)) _)))).mono (by omega)))).mono ?_; intro e w4 hnt; obtain ⟨P, pc, he, hq, hbn⟩ := hnt; subst he; have Hw4 := Lib.hid hq; have HBw4 : Hid (Below X.heap.size X w4) := (show Below X.heap.size X _ from (by (repeat (first | exact Below.refl _ _ | assumption | refine below_drewN ?_ _ | refine Below.drew ?_ | refine Below.setCell ?_ (by first | omega | (simp; done) | (simp; omega)) _ | refine Below.alloc ?_ (by first | omega | (simp; done) | (simp; omega)) _)))).trans (hbn.mono (by first | omega | (simp; done) | (simp; omega))); have kN := (fun k o (h : k < X.heap.size) => (HBw4.out).cell (p := ⟨k, o, none⟩) h); clear hq hbn)
      | (go_at_call 82; refine (added_ am bm p1 p2 _ _ _ _ _ (Hw4.out.below (HBw5.out.trans ((show Below w5.heap.size w5 _ from (by (repeat (first | exact Below.refl _ _ | assumption | refine below_drewN ?_ _ | refine Below.drew ?_ | refine Below.setCell ?_ (by first | omega | (simp; done) | (simp; omega)) _ | refine Below.alloc ?_ (by first | omega | (simp; done) | (simp; omega)) _)))).mono HBw5.out.size))) (Hw5.out.below (show Below w5.heap.size w5 _ from (by (repeat (first | exact Below.refl _ _ | assumption | refine below_drewN ?_ _ | refine Below.drew ?_ | refine Below.setCell ?_ (by first | omega | (simp; done) | (simp; omega)) _ | refine Below.alloc ?_ (by first | omega | (simp; done) | (simp; omega)) _))))) (by omega) (by omega)).mono ?_; intro e w6 hnt; obtain ⟨R, rc, he, hq, hbn⟩ := hnt; subst he; rw [HS.out] at hq ⊢; have Hw6 := Lib.hid hq; have HBw6 : Hid (Below X.heap.size X w6) := HBw4.out.trans ((HBw5.out.trans (((show Below w5.heap.size w5 _ from (by (repeat (first | exact Below.refl _ _ | assumption | refine below_drewN ?_ _ | refine Below.drew ?_ | refine Below.setCell ?_ (by first | omega | (simp; done) | (simp; omega)) _ | refine Below.alloc ?_ (by first | omega | (simp; done) | (simp; omega)) _)))).trans (hbn.mono (by first | omega | (simp; done) | (simp; omega)))).mono HBw5.out.size)).mono HBw4.out.size); have kN := (fun k o (h : k < X.heap.size) => (HBw6.out).cell (p := ⟨k, o, none⟩) h); clear hq hbn))
  have u2 : w6.cell? ⟨w.heap.size, 2, none⟩ = some (.slice D1 (dg ad).length d1) := (HBw6.out.cell (p := ⟨_, 2, none⟩) hx0).trans x2
  have v2 : w6.cell? ⟨w.heap.size + 1, 2, none⟩ = some (.slice D2 (dg bd).length d2) := (HBw6.out.cell (p := ⟨_, 2, none⟩) hx1).trans y2
  go_wp2_with fail
  have HWX : Hid (Below w.heap.size w w6) := HX.out.trans (HBw6.out.mono (by omega))
  have hz6 : X.heap.size ≤ w6.heap.size := HBw6.out.size
  refine (HT3.out _ HWX.out).mono ?_
  rintro e w7 ⟨T, tc, rfl, hq, hb⟩
  have HT7 := Lib.hid hq
  have HS7 := Lib.hid (Hw6.out.below hb)
  have HB7 : Hid (Below X.heap.size X w7) := HBw6.out.trans (hb.mono hz6)
  clear hq hb
  go_wp2_with fail
  have hred := reducedG_ s.1 s.2 p3 _ _ _ _ w7 HS7.out HT7.out l5 l4 (by omega)
  rw [HRR.out] at hred
  refine hred.mono ?_
  clear hred
  rintro e w8 ⟨N8, nc, D8, dc, rfl, hn, hd, hb⟩
  have HN8 := Lib.hid hn
  have HD8 := Lib.hid hd
  have hz7 := HB7.out.size
  have HB8 : Hid (Below X.heap.size X w8) := HB7.out.trans (hb.mono hz7)
  clear hn hd hb
  have HBX : Hid (Below (((w.alloc (.cells #[.bool am, .slice A1 (dg an).length c1, .slice D1 (dg ad).length d1] 69)).alloc (.cells #[.bool bm, .slice A2 (dg bn).length c2, .slice D2 (dg bd).length d2] 69)).heap.size + 1) (((w.alloc (.cells #[.bool am, .slice A1 (dg an).length c1, .slice D1 (dg ad).length d1] 69)).alloc (.cells #[.bool bm, .slice A2 (dg bn).length c2, .slice D2 (dg bd).length d2] 69)).alloc (.cells #[.bool false, .slice none 0 0, .slice none 0 0] 69)) w8) := by
    show Below _ _ _
    rw [hX]
    exact HB8.out.mono (by rw [hXs]; simp)
  have HK := fun (A : Option Addr) (c v : Nat) (hn : NaIn w8 A c v) (p q r : Value) => box_keeps HBX.out hn p q r
  have HBC := box_cells HBX.out
  simp only [World.size_alloc] at HBC HK
  obtain ⟨-, q0, q1, q2, f0, f1, f2, hlt⟩ := HBC
  have HKK := Lib.hid HK
  have HW8 : Hid (Below w.heap.size w w8) := HX.out.trans (HB8.out.mono (by omega))
  clear HK u2 v2 x0 x1 x2 y0 y1 y2 hX
  go_wp2_with fail
  refine bodyPost_ret (v := .agg #[.bool r.m, .slice N8 (dg r.n).length nc, .slice D8 (dg r.d).length dc]) (by simp [results, Tryz.results54, go_sem, q0, q1, q2]) rfl ⟨N8, nc, D8, dc, rfl, HKK.out _ _ _ HN8.out _ _ _, HKK.out _ _ _ HD8.out _ _ _, (by repeat (first | exact Below.refl _ _ | exact (HW8).out | refine below_drewN ?_ _ | refine Below.drew ?_ | refine Below.setCell ?_ (by first | omega | (simp; done) | (simp; omega)) _ | refine Below.alloc ?_ (by first | omega | (simp; done) | (simp; omega)) _))⟩
set_option maxRecDepth 100000 in
set_option maxHeartbeats 8000000 in
theorem rcompareG_ (a b : Rat9) (A1 D1 A2 D2 : Option Addr) (c1 d1 c2 d2 : Nat) (w : World) (ha : RIn w a A1 c1 D1 d1) (hb : RIn w b A2 c2 D2 d2) (hla : RLn 100000 a) (hlb : RLn 100000 b) :
    Calls Tryz.prog 22 #[a.val A1 c1 D1 d1, b.val A2 c2 D2 d2] w fun e w' => e = .returned (.int .i64 (a.cmp b)) ∧ Below w.heap.size w w' := by
  have HA := Lib.hid ha
  have HB := Lib.hid hb
  clear ha hb
  obtain ⟨nb, hnb⟩ : ∃ nb, b.neg = nb := ⟨_, rfl⟩
  have hln : RLn 100000 nb := by rw [← hnb]; exact hlb.neg
  obtain ⟨r, hr⟩ : ∃ r, a.add nb = r := ⟨_, rfl⟩
  have hc := Rat9.cmp_of (a := a) (b := b) (r := r) (by rw [hnb]; exact hr)
  rw [hc]
  obtain ⟨v, hv⟩ : ∃ v : Int, (if r.n = 0 then 0 else if r.m = true then -1 else 1) = v := ⟨_, rfl⟩
  rw [hv]
  have HV := Lib.hid hv
  clear hv
  have HN : Hid (∀ W, Below w.heap.size w W → Calls Tryz.prog 49 #[b.val A2 c2 D2 d2] W (RatT nb W)) := fun W hW => hnb ▸ negative_ b A2 D2 c2 d2 W (HB.out.below hW).n (HB.out.below hW).d
  have HP : Hid (∀ W (A3 D3 : Option Addr) (c3 d3 : Nat), Below w.heap.size w W → NaIn W A3 c3 nb.n → NaIn W D3 d3 nb.d → Calls Tryz.prog 54 #[a.val A1 c1 D1 d1, nb.val A3 c3 D3 d3] W (RatT r W)) := fun W A3 D3 c3 d3 hW h1 h2 => hr ▸ rplusG_ a nb A1 D1 A3 D3 c1 d1 c3 d3 W (HA.out.below hW) ⟨h1, h2⟩ hla hln
  clear hc hr hnb hla hlb hln
  obtain ⟨am, an, ad⟩ := a
  obtain ⟨bm, bn, bd⟩ := b
  simp only [Rat9.val] at HN HP
  go_enter Tryz.func22, Tryz.ntmps22
  go_upto_region 1 with fail
  obtain ⟨X, hX⟩ : ∃ X, ((w.alloc (.cells #[.bool am, .slice A1 (dg an).length c1, .slice D1 (dg ad).length d1] 69)).alloc (.cells #[.bool bm, .slice A2 (dg bn).length c2, .slice D2 (dg bd).length d2] 69)) = X := ⟨_, rfl⟩
  have HX : Hid (Below w.heap.size w X) := by show Below _ _ _; rw [← hX]; exact (by repeat (first | exact Below.refl _ _ | assumption | refine below_drewN ?_ _ | refine Below.drew ?_ | refine Below.setCell ?_ (by first | omega | (simp; done) | (simp; omega)) _ | refine Below.alloc ?_ (by first | omega | (simp; done) | (simp; omega)) _))
  have x0 : X.cell? ⟨w.heap.size, 0, none⟩ = some (.bool am) := by rw [← hX]; simp [go_sem]
  have x1 : X.cell? ⟨w.heap.size, 1, none⟩ = some (.slice A1 (dg an).length c1) := by rw [← hX]; simp [go_sem]
  have x2 : X.cell? ⟨w.heap.size, 2, none⟩ = some (.slice D1 (dg ad).length d1) := by rw [← hX]; simp [go_sem]
  have y0 : X.cell? ⟨w.heap.size + 1, 0, none⟩ = some (.bool bm) := by rw [← hX]; simp [go_sem]
  have y1 : X.cell? ⟨w.heap.size + 1, 1, none⟩ = some (.slice A2 (dg bn).length c2) := by rw [← hX]; simp [go_sem]
  have y2 : X.cell? ⟨w.heap.size + 1, 2, none⟩ = some (.slice D2 (dg bd).length d2) := by rw [← hX]; simp [go_sem]
  have hXs : X.heap.size = w.heap.size + 1 + 1 := by rw [← hX]; simp
  have hx0 : w.heap.size < X.heap.size := by omega
  have hx1 : w.heap.size + 1 < X.heap.size := by omega
  rw [hX]
  have hXl : w.heap.size ≤ X.heap.size := by omega
  clear hX hXs
  have DC : Below X.heap.size X X := Below.refl _ _
  go_region_held3 (fun w' => ∀ k o, k < X.heap.size → w'.cell? ⟨k, o, none⟩ = X.cell? ⟨k, o, none⟩) (first | exact kN | exact fun k o h => rfl | exact fun k o h => (show Below X.heap.size X _ from (by (repeat (first | exact Below.refl _ _ | assumption | refine below_drewN ?_ _ | refine Below.drew ?_ | refine Below.setCell ?_ (by first | omega | (simp; done) | (simp; omega)) _ | refine Below.alloc ?_ (by first | omega | (simp; done) | (simp; omega)) _)))).cell (p := ⟨k, o, none⟩) h)
    (first
      | (go_at_call 49; refine (HN.out _ (HX.out.trans ((show Below X.heap.size X _ from (by (repeat (first | exact Below.refl _ _ | assumption | refine below_drewN ?_ _ | refine Below.drew ?_ | refine Below.setCell ?_ (by first | omega | (simp; done) | (simp; omega)) _ | refine Below.alloc ?_ (by first | omega | (simp; done) | (simp; omega)) _)))).mono (by omega)))).mono ?_; intro e w4 hnt; obtain ⟨A3, c3, D3, d3, he, hn3, hd3, hbn⟩ := hnt; subst he; have DC4 : Below X.heap.size X w4 := (show Below X.heap.size X _ from (by (repeat (first | exact Below.refl _ _ | assumption | refine below_drewN ?_ _ | refine Below.drew ?_ | refine Below.setCell ?_ (by first | omega | (simp; done) | (simp; omega)) _ | refine Below.alloc ?_ (by first | omega | (simp; done) | (simp; omega)) _)))).trans (hbn.mono (by first | omega | (simp; done) | (simp; omega))); have hn3H := Lib.hid hn3; have hd3H := Lib.hid hd3; have kN := (fun k o (h : k < X.heap.size) => DC4.cell (p := ⟨k, o, none⟩) h); (try have Z4 := Zb.keep (B := X.heap.size) (by first | exact zb_new _ | exact (zb_new _).keep ((Below.refl _ _).drew)) hbn); have hz4 := hbn.size; (try simp at hz4); clear hn3 hd3 hbn)
      | (go_at_call 54; refine (HP.out _ _ _ _ _ (HX.out.trans ((show Below X.heap.size X _ from (by (repeat (first | exact Below.refl _ _ | assumption | refine below_drewN ?_ _ | refine Below.drew ?_ | refine Below.setCell ?_ (by first | omega | (simp; done) | (simp; omega)) _ | refine Below.alloc ?_ (by first | omega | (simp; done) | (simp; omega)) _)))).mono (by omega))) (hn3H.out.below (show Below w4.heap.size w4 _ from (by (repeat (first | exact Below.refl _ _ | assumption | refine below_drewN ?_ _ | refine Below.drew ?_ | refine Below.setCell ?_ (by first | omega | (simp; done) | (simp; omega)) _ | refine Below.alloc ?_ (by first | omega | (simp; done) | (simp; omega)) _))))) (hd3H.out.below (show Below w4.heap.size w4 _ from (by (repeat (first | exact Below.refl _ _ | assumption | refine below_drewN ?_ _ | refine Below.drew ?_ | refine Below.setCell ?_ (by first | omega | (simp; done) | (simp; omega)) _ | refine Below.alloc ?_ (by first | omega | (simp; done) | (simp; omega)) _)))))).mono ?_; intro e w5 hnt; obtain ⟨A5, c5, D5, d5, he, -, -, hbn⟩ := hnt; subst he; have DC5 : Below X.heap.size X w5 := (show Below X.heap.size X _ from (by (repeat (first | exact Below.refl _ _ | assumption | refine below_drewN ?_ _ | refine Below.drew ?_ | refine Below.setCell ?_ (by first | omega | (simp; done) | (simp; omega)) _ | refine Below.alloc ?_ (by first | omega | (simp; done) | (simp; omega)) _)))).trans (hbn.mono (by first | omega | (simp; done) | (simp; omega))); have kN := (fun k o (h : k < X.heap.size) => DC5.cell (p := ⟨k, o, none⟩) h); (try (have Z5 := Zb.keep (B := X.heap.size) (by first | exact Z4 | exact Z4.keep ((Below.refl _ _).drew)) hbn; obtain ⟨q0, q1, q2, f0, f1, f2, hlt⟩ := Z5)); (try (have Z5 := Zb.keep (B := w4.heap.size) (by first | exact zb_new _ | exact (zb_new _).keep ((Below.refl _ _).drew)) hbn; obtain ⟨q0, q1, q2, f0, f1, f2, hlt⟩ := Z5)); have hz5 := hbn.size; (try simp at hz5); clear hbn))
  all_goals
    go_wp2_with fail
    refine (zero_ r _ _ _ _ _).mono ?_
    rintro e w6 ⟨rfl, hb6⟩
    obtain ⟨hc6, hf6⟩ := bcell hb6
    have hz6 := hb6.size
    try simp at hz6
    have HB6 : Hid (Below w.heap.size w w6) := HX.out.trans (((show Below X.heap.size X _ from (by repeat (first | exact Below.refl _ _ | assumption | refine below_drewN ?_ _ | refine Below.drew ?_ | refine Below.setCell ?_ (by first | omega | (simp; done) | (simp; omega)) _ | refine Below.alloc ?_ (by first | omega | (simp; done) | (simp; omega)) _))).trans (hb6.mono (by first | omega | (simp; done) | (simp; omega)))).mono hXl)
    clear hb6
    by_cases h0 : r.n = 0
    · rw [decide_eq_true h0]
      obtain rfl : v = 0 := by rw [← HV.out, if_pos h0]
      clear h0
      go_wp2_with fail
      go_ret
      exact ⟨rfl, (by repeat (first | exact Below.refl _ _ | exact (HB6).out | refine below_drewN ?_ _ | refine Below.drew ?_ | refine Below.setCell ?_ (by first | omega | (simp; done) | (simp; omega)) _ | refine Below.alloc ?_ (by first | omega | (simp; done) | (simp; omega)) _))⟩
    · rw [decide_eq_false h0]
      cases hm : r.m with
      | true =>
        obtain rfl : v = -1 := by rw [← HV.out, if_neg h0, if_pos hm]
        clear h0
        go_wp2_with fail
        go_ret
        exact ⟨rfl, (by repeat (first | exact Below.refl _ _ | exact (HB6).out | refine below_drewN ?_ _ | refine Below.drew ?_ | refine Below.setCell ?_ (by first | omega | (simp; done) | (simp; omega)) _ | refine Below.alloc ?_ (by first | omega | (simp; done) | (simp; omega)) _))⟩
      | false =>
        obtain rfl : v = 1 := by rw [← HV.out, if_neg h0, if_neg (by rw [hm]; decide)]
        clear h0
        go_wp2_with fail
        go_ret
        exact ⟨rfl, (by repeat (first | exact Below.refl _ _ | exact (HB6).out | refine below_drewN ?_ _ | refine Below.drew ?_ | refine Below.setCell ?_ (by first | omega | (simp; done) | (simp; omega)) _ | refine Below.alloc ?_ (by first | omega | (simp; done) | (simp; omega)) _))⟩
end Go.Proofs.YtpphnnijnnfngaaGreatDoor
