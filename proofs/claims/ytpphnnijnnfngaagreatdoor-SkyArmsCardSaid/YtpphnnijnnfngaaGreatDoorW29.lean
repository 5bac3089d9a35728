/-
  The error ways of the sky's celled, Arrive and Ring; Arrive and Ring for all inputs.
-/
import Derived.Test.YtpphnnijnnfngaaGreatDoorW24
import Derived.Test.YtpphnnijnnfngaaGreatDoorW14
import Derived.Test.YtpphnnijnnfngaaGreatDoorW28
namespace Go.Proofs.YtpphnnijnnfngaaGreatDoor
open Go.RowKit Al

/-- The first error of a network, a grid and a cell. -/
def celG (L : List NSi) (n c : Int) : Int := if netG L n == 0 then (if inB c 0 (6 * (n * n) - 1) then 0 else 91) else netG L n
theorem celG_ok {L : List NSi} {n c : Int} (h : celG L n c = 0) : netG L n = 0 ∧ thereB n c = true := by
  unfold celG at h
  by_cases hg : netG L n = 0
  · rw [if_pos (by simpa using hg)] at h
    refine ⟨hg, ?_⟩
    obtain ⟨_, _, h1, h8⟩ := netG_ok hg
    unfold thereB
    rw [inB_true.2 ⟨h1, h8⟩]
    cases hc : inB c 0 (6 * (n * n) - 1) with
    | true => rfl
    | false => rw [hc] at h; cases h
  · rw [if_neg (by simpa using hg)] at h
    exact absurd h hg
set_option maxRecDepth 100000 in
set_option maxHeartbeats 4000000 in
theorem celled_e (L : List NSi) (A : Option Addr) (c : Nat) (n cl v : Int) (w : World) (hv : celG L n cl = v) (h0 : ¬ v = 0) (hL : Sl w w.heap.size 10 A L.length c (nsCells L)) (hm : ∀ x ∈ L, x.nm.size ≤ maxLen) :
    Calls Tryz.prog 8 #[.slice A L.length c, .int .i64 n, .int .i64 cl] w fun e w' => e = .returned (.tuple #[.slice none 0 0, v3 (0, 0, 0), .int .i64 v]) ∧ Below w.heap.size w w' := by
  by_cases hg : netG L n = 0
  · have hv2 : v = 91 := by
      rw [← hv]
      unfold celG at hv ⊢
      rw [if_pos (by simpa using hg)] at hv ⊢
      cases hc : inB cl 0 (6 * (n * n) - 1) with
      | true => rw [hc] at hv; exact absurd hv.symm h0
      | false => rfl
    subst hv2
    have hc : inB cl 0 (6 * (n * n) - 1) = false := by
      unfold celG at hv
      rw [if_pos (by simpa using hg)] at hv
      cases hc : inB cl 0 (6 * (n * n) - 1) with
      | true => rw [hc] at hv; cases hv
      | false => rfl
    obtain ⟨_, _, h1, h2⟩ := netG_ok hg
    obtain ⟨k1, k2, k3⟩ := six_in h1 h2
    have s1 : wrap64 (6 * n) = 6 * n := w64 (by omega) (by omega)
    have s2 : wrap64 (6 * n * n) = 6 * n * n := w64 (by omega) (by omega)
    have s3 : wrap64 (6 * n * n - 1) = 6 * n * n - 1 := w64 (by omega) (by omega)
    have b2 : inB cl 0 (6 * n * n - 1) = false := by rw [k1]; exact hc
    have HN := Lib.hid (fun W (hW : Below w.heap.size w W) => netted_ok L A c n W hg ((hL.below hW).more hW.size) hm)
    clear hc hv h1 h2 k1 k2 k3 hL hm hg
    go_enter Tryz.func8, Tryz.ntmps8
    go_wp2_with fail
    refine (HN.out _ (by repeat (first | exact Below.refl _ _ | assumption | refine below_drewN ?_ _ | refine Below.drew ?_ | refine Below.setCell ?_ (by first | omega | (simp; done) | (simp; omega)) _ | refine Below.alloc ?_ (by first | omega | (simp; done) | (simp; omega)) _))).mono ?_
    rintro e w1 ⟨B, cc, rfl, hO, hb⟩
    obtain ⟨hcw, hfw⟩ := bcell hb
    have HW1 : Hid (Below w.heap.size w w1) := (show Below w.heap.size w _ from (by repeat (first | exact Below.refl _ _ | assumption | refine below_drewN ?_ _ | refine Below.drew ?_ | refine Below.setCell ?_ (by first | omega | (simp; done) | (simp; omega)) _ | refine Below.alloc ?_ (by first | omega | (simp; done) | (simp; omega)) _))).trans (hb.mono (by first | omega | (simp; done) | (simp; omega)))
    have P0 : w1.cell? ⟨w.heap.size, 0, none⟩ = some (.int .i64 0) := by rw [hcw _ _ (by simp)]; simp [go_sem]
    have P1 : w1.cell? ⟨w.heap.size, 1, none⟩ = some (.int .i64 0) := by rw [hcw _ _ (by simp)]; simp [go_sem]
    have P2 : w1.cell? ⟨w.heap.size, 2, none⟩ = some (.int .i64 0) := by rw [hcw _ _ (by simp)]; simp [go_sem]
    have q0 : w1.frozen? ⟨w.heap.size, 0, none⟩ = false := by rw [hfw _ _ (by simp)]; simp [go_sem]
    have q1 : w1.frozen? ⟨w.heap.size, 1, none⟩ = false := by rw [hfw _ _ (by simp)]; simp [go_sem]
    have q2 : w1.frozen? ⟨w.heap.size, 2, none⟩ = false := by rw [hfw _ _ (by simp)]; simp [go_sem]
    have R0 := Lib.hid P0
    have R1 := Lib.hid P1
    have R2 := Lib.hid P2
    have hz := hb.size
    simp at hz
    have hz1 : w.heap.size < w1.heap.size := by omega
    clear hb hO hcw hfw
    go_wp2_with (go_at_call 24; refine (swithin_ _ _ _ _).mono ?_; rintro e w' ⟨rfl, rfl⟩; rw [b2])
    refine fin3 w.heap.size (.tuple #[.slice none 0 0, v3 (0, 0, 0), .int .i64 91]) rfl (fun W e0 e1 e2 => by simp [results, Tryz.results8, go_sem, e0, e1, e2]) R0.out R1.out R2.out ⟨rfl, (((HW1.out.setCell (by simp) _).setCell (by simp) _).setCell (by simp) _)⟩
  · have hv2 : netG L n = v := by
      rw [← hv]
      unfold celG
      rw [if_neg (by simpa using hg)]
    have hnz : (v != 0) = true := by simpa using h0
    have HN := Lib.hid (fun W (hW : Below w.heap.size w W) => netted_e L A c n v W hv2 h0 ((hL.below hW).more hW.size) hm)
    clear hv hg hv2 hL hm
    go_enter Tryz.func8, Tryz.ntmps8
    go_wp2_with fail
    refine (HN.out _ (by repeat (first | exact Below.refl _ _ | assumption | refine below_drewN ?_ _ | refine Below.drew ?_ | refine Below.setCell ?_ (by first | omega | (simp; done) | (simp; omega)) _ | refine Below.alloc ?_ (by first | omega | (simp; done) | (simp; omega)) _))).mono ?_
    rintro e w1 ⟨rfl, hb⟩
    obtain ⟨hcw, hfw⟩ := bcell hb
    have HW1 : Hid (Below w.heap.size w w1) := (show Below w.heap.size w _ from (by repeat (first | exact Below.refl _ _ | assumption | refine below_drewN ?_ _ | refine Below.drew ?_ | refine Below.setCell ?_ (by first | omega | (simp; done) | (simp; omega)) _ | refine Below.alloc ?_ (by first | omega | (simp; done) | (simp; omega)) _))).trans (hb.mono (by first | omega | (simp; done) | (simp; omega)))
    have P0 : w1.cell? ⟨w.heap.size, 0, none⟩ = some (.int .i64 0) := by rw [hcw _ _ (by simp)]; simp [go_sem]
    have P1 : w1.cell? ⟨w.heap.size, 1, none⟩ = some (.int .i64 0) := by rw [hcw _ _ (by simp)]; simp [go_sem]
    have P2 : w1.cell? ⟨w.heap.size, 2, none⟩ = some (.int .i64 0) := by rw [hcw _ _ (by simp)]; simp [go_sem]
    have q0 : w1.frozen? ⟨w.heap.size, 0, none⟩ = false := by rw [hfw _ _ (by simp)]; simp [go_sem]
    have q1 : w1.frozen? ⟨w.heap.size, 1, none⟩ = false := by rw [hfw _ _ (by simp)]; simp [go_sem]
    have q2 : w1.frozen? ⟨w.heap.size, 2, none⟩ = false := by rw [hfw _ _ (by simp)]; simp [go_sem]
    have R0 := Lib.hid P0
    have R1 := Lib.hid P1
    have R2 := Lib.hid P2
    have hz := hb.size
    simp at hz
    have hz1 : w.heap.size < w1.heap.size := by omega
    clear hb hcw hfw
    go_wp2_with fail
    refine fin3 w.heap.size (.tuple #[.slice none 0 0, v3 (0, 0, 0), .int .i64 v]) rfl (fun W e0 e1 e2 => by simp [results, Tryz.results8, go_sem, e0, e1, e2]) R0.out R1.out R2.out ⟨rfl, (((HW1.out.setCell (by simp) _).setCell (by simp) _).setCell (by simp) _)⟩
/-- Arrive: which error, and which times. -/
def arrE (L : List NSi) (n cl : Int) : List Int := if celG L n cl = 0 then (sites L).map (arrF (dirV n cl)) else []
set_option maxRecDepth 100000 in
theorem Arrive_e (L : List NSi) (A : Option Addr) (c : Nat) (n cl v : Int) (w : World) (hv : celG L n cl = v) (h0 : ¬ v = 0) (hL : Sl w w.heap.size 10 A L.length c (nsCells L)) (hm : ∀ x ∈ L, x.nm.size ≤ maxLen) :
    Calls Tryz.prog 11 #[.slice A L.length c, .int .i64 n, .int .i64 cl] w (FitOut v [] w) := by
  have HC := Lib.hid (celled_e L A c n cl v w hv h0 hL hm)
  have hnz : (v != 0) = true := by simpa using h0
  clear hL hm hv
  go_enter Tryz.func11, Tryz.ntmps11
  go_wp2_with fail
  refine HC.out.mono ?_
  rintro e w1 ⟨rfl, hb⟩
  have HB := Lib.hid hb
  clear hb
  go_wp2_with fail
  go_ret2
  exact FitOut.none v (HB.out.alloc HB.out.size _)
theorem Arrive_ (L : List NSi) (A : Option Addr) (c : Nat) (n cl : Int) (w : World) (hL : Sl w w.heap.size 10 A L.length c (nsCells L)) (hm : ∀ x ∈ L, x.nm.size ≤ maxLen) :
    Calls Tryz.prog 11 #[.slice A L.length c, .int .i64 n, .int .i64 cl] w (FitOut (celG L n cl) (arrE L n cl) w) := by
  by_cases h : celG L n cl = 0
  · obtain ⟨h1, h2⟩ := celG_ok h
    refine (Arrive_ok L A c n cl w h1 h2 hL hm).mono ?_
    rintro e w1 ⟨B, cc, rfl, hO, hb⟩
    rw [h]
    unfold arrE
    rw [if_pos h]
    exact ⟨_, rfl, hO, hb⟩
  · have e : arrE L n cl = [] := by unfold arrE; rw [if_neg h]
    rw [e]
    exact Arrive_e L A c n cl _ w rfl h hL hm
/-- Are these two sites, a difference and a slack? -/
def rgOk (m : Nat) (a b df sl : Int) : Bool := !(a == b) && (inB a 0 ((m : Int) - 1) && (inB b 0 ((m : Int) - 1) && (inB df (-1099511627776) 1099511627776 && inB sl 0 131072)))
def rgG (L : List NSi) (n a b df sl : Int) : Int := if netG L n == 0 then (if rgOk L.length a b df sl then 0 else 92) else netG L n
def rgL (L : List NSi) (n a b df sl : Int) (N : Nat) : List Int := if rgG L n a b df sl = 0 then pickL (fun d => diffB (siteAt (sites L) a) (siteAt (sites L) b) d df sl) (cellsL n N) else []
set_option maxRecDepth 100000 in
theorem Ring_e (L : List NSi) (A : Option Addr) (c : Nat) (n a b df sl v : Int) (w : World) (hv : netG L n = v) (h0 : ¬ v = 0) (hL : Sl w w.heap.size 10 A L.length c (nsCells L)) (hm : ∀ x ∈ L, x.nm.size ≤ maxLen) :
    Calls Tryz.prog 13 #[.slice A L.length c, .int .i64 n, .int .i64 a, .int .i64 b, .int .i64 df, .int .i64 sl] w (FitOut v [] w) := by
  have HN := Lib.hid (fun W (hW : Below w.heap.size w W) => netted_e L A c n v W hv h0 ((hL.below hW).more hW.size) hm)
  have hnz : (v != 0) = true := by simpa using h0
  clear hL hm hv
  go_enter Tryz.func13, Tryz.ntmps13
  go_wp2_with fail
  refine (HN.out _ (by repeat (first | exact Below.refl _ _ | assumption | refine below_drewN ?_ _ | refine Below.drew ?_ | refine Below.setCell ?_ (by first | omega | (simp; done) | (simp; omega)) _ | refine Below.alloc ?_ (by first | omega | (simp; done) | (simp; omega)) _))).mono ?_
  rintro e w1 ⟨rfl, hb⟩
  have HB : Hid (Below w.heap.size w w1) := (show Below w.heap.size w _ from (by repeat (first | exact Below.refl _ _ | assumption | refine below_drewN ?_ _ | refine Below.drew ?_ | refine Below.setCell ?_ (by first | omega | (simp; done) | (simp; omega)) _ | refine Below.alloc ?_ (by first | omega | (simp; done) | (simp; omega)) _))).trans (hb.mono (by first | omega | (simp; done) | (simp; omega)))
  clear hb
  go_wp2_with fail
  go_ret2
  exact FitOut.none v (HB.out.alloc HB.out.size _)
set_option maxRecDepth 100000 in
set_option maxHeartbeats 8000000 in
theorem Ring_b (L : List NSi) (A : Option Addr) (c : Nat) (n a b df sl : Int) (w : World) (hg : netG L n = 0) (hr : rgOk L.length a b df sl = false) (hL : Sl w w.heap.size 10 A L.length c (nsCells L)) (hm : ∀ x ∈ L, x.nm.size ≤ maxLen) :
    Calls Tryz.prog 13 #[.slice A L.length c, .int .i64 n, .int .i64 a, .int .i64 b, .int .i64 df, .int .i64 sl] w (FitOut 92 [] w) := by
  obtain ⟨hl2, hl6, hn1, hn8⟩ := netG_ok hg
  have HNT := Lib.hid (fun W (hW : Below w.heap.size w W) => netted_ok L A c n W hg ((hL.below hW).more hW.size) hm)
  have s1 : IntKind.i64.wrap ((L.length : Int) - 1) = (L.length : Int) - 1 := IntWalk.i64_in _ (by omega)
  have HR := Lib.hid hr
  clear hg hL hm hr
  go_enter Tryz.func13, Tryz.ntmps13
  go_wp2_with fail
  refine (HNT.out _ (by repeat (first | exact Below.refl _ _ | assumption | refine below_drewN ?_ _ | refine Below.drew ?_ | refine Below.setCell ?_ (by first | omega | (simp; done) | (simp; omega)) _ | refine Below.alloc ?_ (by first | omega | (simp; done) | (simp; omega)) _))).mono ?_
  rintro e w1 ⟨S, cs, rfl, hO, hb⟩
  have HW1 : Hid (Below w.heap.size w w1) := (show Below w.heap.size w _ from (by repeat (first | exact Below.refl _ _ | assumption | refine below_drewN ?_ _ | refine Below.drew ?_ | refine Below.setCell ?_ (by first | omega | (simp; done) | (simp; omega)) _ | refine Below.alloc ?_ (by first | omega | (simp; done) | (simp; omega)) _))).trans (hb.mono (by first | omega | (simp; done) | (simp; omega)))
  obtain ⟨hcw, hfw⟩ := bcell hb
  have hz := hb.size
  simp at hz
  have P0 : w1.cell? ⟨w.heap.size, 0, none⟩ = some (.int .i64 a) := by rw [hcw _ _ (by simp; omega)]; simp [go_sem]
  have P1 : w1.cell? ⟨w.heap.size + 1, 0, none⟩ = some (.int .i64 b) := by rw [hcw _ _ (by simp)]; simp [go_sem]
  have P2 : w1.cell? ⟨w.heap.size + 1 + 1, 0, none⟩ = some (.int .i64 df) := by rw [hcw _ _ (by simp)]; simp [go_sem]
  have P3 : w1.cell? ⟨w.heap.size + 1 + 1 + 1, 0, none⟩ = some (.int .i64 sl) := by rw [hcw _ _ (by simp)]; simp [go_sem]
  have z0 : w.heap.size < w1.heap.size := by omega
  have z1 : w.heap.size + 1 < w1.heap.size := by omega
  have z2 : w.heap.size + 1 + 1 < w1.heap.size := by omega
  have z3 : w.heap.size + 1 + 1 + 1 < w1.heap.size := by omega
  clear hb hO hcw hfw hz
  by_cases hab : a = b
  · have e1 : decide (a = b) = true := decide_eq_true hab
    have e2 : (a == b) = true := by simpa using hab
    go_wp2_with fail
    go_ret2
    exact FitOut.none 92 (HW1.out.alloc HW1.out.size _)
  · have e1 : decide (a = b) = false := decide_eq_false hab
    have e2 : (a == b) = false := by simpa using hab
    cases b1 : inB a 0 ((L.length : Int) - 1) with
    | false =>
      go_wp2_with (go_at_call 24; refine (swithin_ _ _ _ _).mono ?_; rintro e w' ⟨rfl, rfl⟩; first | rw [b1])
      go_ret2
      exact FitOut.none 92 (HW1.out.alloc HW1.out.size _)
    | true =>
      cases b2 : inB b 0 ((L.length : Int) - 1) with
      | false =>
        go_wp2_with (go_at_call 24; refine (swithin_ _ _ _ _).mono ?_; rintro e w' ⟨rfl, rfl⟩; first | rw [b1] | rw [b2])
        go_ret2
        exact FitOut.none 92 (HW1.out.alloc HW1.out.size _)
      | true =>
        cases hd : inB df (-1099511627776) 1099511627776 with
        | false =>
          go_wp2_with (go_at_call 24; refine (swithin_ _ _ _ _).mono ?_; rintro e w' ⟨rfl, rfl⟩; first | rw [b1] | rw [b2] | rw [hd])
          go_ret2
          exact FitOut.none 92 (HW1.out.alloc HW1.out.size _)
        | true =>
          cases hs : inB sl 0 131072 with
          | false =>
            go_wp2_with (go_at_call 24; refine (swithin_ _ _ _ _).mono ?_; rintro e w' ⟨rfl, rfl⟩; first | rw [b1] | rw [b2] | rw [hd] | rw [hs])
            go_ret2
            exact FitOut.none 92 (HW1.out.alloc HW1.out.size _)
          | true =>
            exact absurd HR.out (by unfold rgOk; rw [e2, b1, b2, hd, hs]; simp)
/-- Ring: which error, and which cells. -/
theorem Ring_ (L : List NSi) (A : Option Addr) (c : Nat) (n a b df sl : Int) (w : World) (hL : Sl w w.heap.size 10 A L.length c (nsCells L)) (hm : ∀ x ∈ L, x.nm.size ≤ maxLen) (N : Nat) (hN : (N : Int) = 6 * (n * n)) :
    Calls Tryz.prog 13 #[.slice A L.length c, .int .i64 n, .int .i64 a, .int .i64 b, .int .i64 df, .int .i64 sl] w (FitOut (rgG L n a b df sl) (rgL L n a b df sl N) w) := by
  by_cases hg : netG L n = 0
  · have e : rgG L n a b df sl = if rgOk L.length a b df sl then 0 else 92 := by unfold rgG; rw [if_pos (by simpa using hg)]
    cases hr : rgOk L.length a b df sl with
    | false =>
      have e2 : rgL L n a b df sl N = [] := by unfold rgL; rw [e, hr]; rfl
      rw [e, e2, hr]
      exact Ring_b L A c n a b df sl w hg hr hL hm
    | true =>
      have e2 : rgL L n a b df sl N = pickL (fun d => diffB (siteAt (sites L) a) (siteAt (sites L) b) d df sl) (cellsL n N) := by unfold rgL; rw [e, hr]; rfl
      rw [e, e2, hr]
      unfold rgOk at hr
      simp only [Bool.and_eq_true, Bool.not_eq_true', beq_eq_false_iff_ne] at hr
      obtain ⟨r1, r2, r3, r4, r5⟩ := hr
      have q2 := inB_true.1 r2
      have q3 := inB_true.1 r3
      obtain ⟨p, rfl⟩ : ∃ p : Nat, a = (p : Int) := ⟨a.toNat, by omega⟩
      obtain ⟨q, rfl⟩ : ∃ q : Nat, b = (q : Int) := ⟨b.toNat, by omega⟩
      have h := Ring_ok L A c n p q df sl w hg (by omega) (by omega) (by omega) r4 r5 hL hm N hN
      unfold siteAt
      simpa using h
  · have e : rgG L n a b df sl = netG L n := by unfold rgG; rw [if_neg (by simpa using hg)]
    have e2 : rgL L n a b df sl N = [] := by unfold rgL; rw [e, if_neg hg]
    rw [e, e2]
    exact Ring_e L A c n a b df sl _ w rfl hg hL hm
end Go.Proofs.YtpphnnijnnfngaaGreatDoor

/-
  Plainly: the time of arrival, and what was heard fits (for SkyTrue).
-/
namespace Go.Proofs.YtpphnnijnnfngaaGreatDoor
open Go.RowKit Al Ring9

theorem w62 {x : Int} (h1 : -4000000000000000000 ≤ x) (h2 : x ≤ 4000000000000000000) : wrap64 x = x := by unfold wrap64; omega
theorem sqb {x b : Int} (h1 : -b ≤ x) (h2 : x ≤ b) : x * x ≤ b * b := by
  rcases Int.le_total 0 x with h | h
  · exact sq_le h h2
  · have := sq_le (a := -x) (b := b) (by omega) (by omega)
    rw [sq_negs] at this
    exact this
theorem sqW_is {x : Int} (h1 : -4194304 ≤ x) (h2 : x ≤ 4194304) : sqW x = ssq x := by
  have h := sqb h1 h2
  have h0 := sq_nn x
  have e1 : wrap64 (-x) = -x := w62 (by omega) (by omega)
  unfold sqW ssq
  by_cases hx : x < 0
  · rw [if_pos hx, if_pos hx, e1, Int.neg_mul]
    exact w62 (by omega) (by omega)
  · rw [if_neg hx, if_neg hx]
    exact w62 (by omega) (by omega)
theorem clampI_is (m : Int) : clampI m = clampB 1048576 m := by
  unfold clampI clampL clampB
  by_cases h1 : m < -1048576
  · rw [if_pos h1]; omega
  · rw [if_neg h1]
    by_cases h2 : 1048576 < m
    · rw [if_pos h2]; omega
    · rw [if_neg h2]; omega
theorem mulb {x d b c : Int} (h1 : -b ≤ x) (h2 : x ≤ b) (hb : 0 ≤ b) (hd : 0 ≤ d) (hc : d ≤ c) : -(b * c) ≤ x * d ∧ x * d ≤ b * c := by
  have a1 := Int.mul_le_mul_of_nonneg_right h2 hd
  have a2 := Int.mul_le_mul_of_nonneg_right h1 hd
  have a3 := Int.mul_le_mul_of_nonneg_left hc hb
  have a4 : -b * d = -(b * d) := Int.neg_mul _ _
  omega
theorem above_is {k d m : Int} (hk1 : -4194304 ≤ k) (hk2 : k ≤ 4194304) (hd1 : 0 ≤ d) (hd : d ≤ 256) : aboveW k d m = ssq k - ssq (clampB 1048576 m) * d := by
  have hc : -1048576 ≤ clampB 1048576 m ∧ clampB 1048576 m ≤ 1048576 := by unfold clampB; omega
  unfold aboveW
  rw [clampI_is]
  obtain ⟨C, hC⟩ : ∃ C, clampB 1048576 m = C := ⟨_, rfl⟩
  rw [hC] at hc ⊢
  rw [sqW_is hk1 hk2, sqW_is (by omega) (by omega)]
  have a1 := ssq_in k
  have a2 := sqb hk1 hk2
  have b1 := ssq_in C
  have b2 := sqb hc.1 hc.2
  rw [show (1048576 : Int) * 1048576 = 1099511627776 by decide] at b2
  rw [show (4194304 : Int) * 4194304 = 17592186044416 by decide] at a2
  obtain ⟨c1, c2⟩ := mulb (x := ssq C) (d := d) (b := 1099511627776) (c := 256) (by omega) (by omega) (by decide) hd1 hd
  rw [show (1099511627776 : Int) * 256 = 281474976710656 by decide] at c1 c2
  rw [w62 (x := ssq C * d) (by omega) (by omega), w62 (by omega) (by omega)]
theorem ssq_mono {a b : Int} (h : a ≤ b) : ssq a ≤ ssq b := by
  unfold ssq
  have ha := sq_nn a
  have hb := sq_nn b
  by_cases h1 : a < 0
  · rw [if_pos h1]
    by_cases h2 : b < 0
    · rw [if_pos h2]
      have := sq_le (a := -b) (b := -a) (by omega) (by omega)
      rw [sq_negs, sq_negs] at this
      omega
    · rw [if_neg h2]; omega
  · rw [if_neg h1, if_neg (by omega)]
    exact sq_le (by omega) h
theorem clampB_mono {b x y : Int} (h : x ≤ y) : clampB b x ≤ clampB b y := by unfold clampB; omega
/-- The search's end: what it finds is not above, the next one is. -/
theorem bsF_is {k d : Int} : ∀ {f : Nat} {lo hi : Int}, 0 ≤ aboveW k d lo → ¬ 0 ≤ aboveW k d (hi + 1) → lo ≤ hi → hi - lo < (2 ^ f : Nat) → (0 ≤ aboveW k d (bsF k d f lo hi) ∧ ¬ 0 ≤ aboveW k d (bsF k d f lo hi + 1)) ∧ lo ≤ bsF k d f lo hi ∧ bsF k d f lo hi ≤ hi := by
  intro f
  induction f with
  | zero =>
    intro lo hi h1 h2 h3 h4
    obtain rfl : lo = hi := by simp at h4; omega
    exact ⟨⟨h1, h2⟩, Int.le_refl _, Int.le_refl _⟩
  | succ f ih =>
    intro lo hi h1 h2 h3 h4
    have hp : (2 ^ (f + 1) : Nat) = 2 * 2 ^ f := by rw [Nat.pow_succ]; omega
    rw [hp] at h4
    obtain ⟨P, hP⟩ : ∃ P : Nat, 2 ^ f = P := ⟨_, rfl⟩
    rw [hP] at h4 ih
    unfold bsF
    by_cases hlt : lo < hi
    · rw [if_pos hlt]
      have ht : (hi - lo + 1).tdiv 2 = (hi - lo + 1) / 2 := Int.tdiv_eq_ediv_of_nonneg (by omega)
      rw [ht]
      obtain ⟨m, hm⟩ : ∃ m, lo + (hi - lo + 1) / 2 = m := ⟨_, rfl⟩
      rw [hm]
      by_cases hq : 0 ≤ aboveW k d m
      · rw [if_pos hq]
        obtain ⟨i1, i2, i3⟩ := ih hq h2 (by omega) (by omega)
        exact ⟨i1, by omega, i3⟩
      · rw [if_neg hq]
        obtain ⟨i1, i2, i3⟩ := ih h1 (by rw [show m - 1 + 1 = m by omega]; exact hq) (by omega) (by omega)
        exact ⟨i1, i2, by omega⟩
    · rw [if_neg hlt]
      obtain rfl : lo = hi := by omega
      exact ⟨⟨h1, h2⟩, Int.le_refl _, Int.le_refl _⟩
/-- A direction of a grid. -/
structure Dir9 (d : V3) : Prop where
  a : -8 ≤ d.1 ∧ d.1 ≤ 8
  b : -8 ≤ d.2.1 ∧ d.2.1 ≤ 8
  c : -8 ≤ d.2.2 ∧ d.2.2 ≤ 8
  z : ¬ (d.1 = 0 ∧ d.2.1 = 0 ∧ d.2.2 = 0)
theorem dir9 {n c : Int} (ht : thereB n c = true) : Dir9 (dirV n c) := let h := dir_in ht; ⟨h.1, h.2.1, h.2.2.1, h.2.2.2⟩
/-- A place of a site. -/
structure Plc9 (p : V3) : Prop where
  a : -65536 ≤ p.1 ∧ p.1 ≤ 65536
  b : -65536 ≤ p.2.1 ∧ p.2.1 ≤ 65536
  c : -65536 ≤ p.2.2 ∧ p.2.2 ≤ 65536
theorem mostB_get {v : V3} {m : Int} (h : mostB v m = true) : (-m ≤ v.1 ∧ v.1 ≤ m) ∧ (-m ≤ v.2.1 ∧ v.2.1 ≤ m) ∧ (-m ≤ v.2.2 ∧ v.2.2 ≤ m) := by
  unfold mostB outB at h
  simp only [List.any_cons, List.any_nil, Bool.or_false, Bool.not_eq_true', Bool.or_eq_false_iff, Bool.not_eq_false'] at h
  exact ⟨inB_true.1 h.1, inB_true.1 h.2.1, inB_true.1 h.2.2⟩
theorem net_site {L : List NSi} {n : Int} (hv : netG L n = 0) {s : Site} (hs : s ∈ sites L) : Plc9 s.p := by
  have he : netE L = 0 := by
    rcases netE_cases L with h | h
    · exact h
    · unfold netG at hv; rw [h] at hv; cases hv
  have hnb : netB L = true := by
    unfold netE at he
    cases hb : netB L with
    | true => rfl
    | false => rw [hb] at he; cases he
  unfold netB at hnb
  rw [Bool.and_eq_true] at hnb
  obtain ⟨x, hx, rfl⟩ := List.mem_map.1 hs
  have h := List.all_eq_true.1 hnb.2 x hx
  unfold siteOkB at h
  rw [Bool.and_eq_true] at h
  obtain ⟨a, b, c⟩ := mostB_get h.1
  exact ⟨a, b, c⟩
/-- The plain sum of products. -/
def dotI (v u : V3) : Int := v.1 * u.1 + v.2.1 * u.2.1 + v.2.2 * u.2.2
theorem mulc {x y b : Int} (h1 : -b ≤ x) (h2 : x ≤ b) (hb : 0 ≤ b) (h3 : -8 ≤ y) (h4 : y ≤ 8) : -(8 * b) ≤ x * y ∧ x * y ≤ 8 * b := by
  rcases Int.le_total 0 y with h | h
  · have := mulb h1 h2 hb h h4; omega
  · have := mulb (x := x) (d := -y) (b := b) (c := 8) h1 h2 hb (by omega) (by omega)
    rw [Int.mul_neg] at this
    omega
theorem dot_is {p d : V3} (hp : Plc9 p) (hd : Dir9 d) : dotW p d = dotI p d ∧ -1572864 ≤ dotI p d ∧ dotI p d ≤ 1572864 := by
  obtain ⟨a1, a2⟩ := mulc hp.a.1 hp.a.2 (by omega) hd.a.1 hd.a.2
  obtain ⟨b1, b2⟩ := mulc hp.b.1 hp.b.2 (by omega) hd.b.1 hd.b.2
  obtain ⟨c1, c2⟩ := mulc hp.c.1 hp.c.2 (by omega) hd.c.1 hd.c.2
  unfold dotW dotI
  rw [w62 (x := p.1 * d.1) (by omega) (by omega), w62 (x := p.2.1 * d.2.1) (by omega) (by omega), w62 (x := p.2.2 * d.2.2) (by omega) (by omega), w62 (x := p.1 * d.1 + p.2.1 * d.2.1) (by omega) (by omega), w62 (by omega) (by omega)]
  exact ⟨rfl, by omega, by omega⟩
theorem dd_is {d : V3} (hd : Dir9 d) : dotW d d = dotI d d ∧ 1 ≤ dotI d d ∧ dotI d d ≤ 192 := by
  have a := sqb hd.a.1 hd.a.2
  have b := sqb hd.b.1 hd.b.2
  have c := sqb hd.c.1 hd.c.2
  have a0 := sq_nn d.1
  have b0 := sq_nn d.2.1
  have c0 := sq_nn d.2.2
  have hz : ¬ (d.1 * d.1 = 0 ∧ d.2.1 * d.2.1 = 0 ∧ d.2.2 * d.2.2 = 0) := by
    rintro ⟨h1, h2, h3⟩
    simp only [Int.mul_eq_zero, or_self] at h1 h2 h3
    exact hd.z ⟨h1, h2, h3⟩
  unfold dotW dotI
  rw [w62 (x := d.1 * d.1) (by omega) (by omega), w62 (x := d.2.1 * d.2.1) (by omega) (by omega), w62 (x := d.2.2 * d.2.2) (by omega) (by omega), w62 (x := d.1 * d.1 + d.2.1 * d.2.1) (by omega) (by omega), w62 (by omega) (by omega)]
  exact ⟨rfl, by omega, by omega⟩
/-- A part in a direction is no longer than the place is far. -/
theorem dot_far {p d : V3} (hp : Plc9 p) (hd : Dir9 d) : dotI p d * dotI p d ≤ 12884901888 * dotI d d := by
  have h := cauchy p.1 p.2.1 p.2.2 d.1 d.2.1 d.2.2
  have a := sqb hp.a.1 hp.a.2
  have b := sqb hp.b.1 hp.b.2
  have c := sqb hp.c.1 hp.c.2
  have h2 : (p.1 * p.1 + p.2.1 * p.2.1 + p.2.2 * p.2.2) * dotI d d ≤ 12884901888 * dotI d d := Int.mul_le_mul_of_nonneg_right (by omega) (by have := (dd_is hd).2.1; omega)
  exact Int.le_trans h h2
/-- The time of arrival: the greatest number that is not above. -/
theorem arr_is {s : Site} {d : V3} (hp : Plc9 s.p) (hd : Dir9 d) : RootLe (dotI d d) (arrF d s) (-dotI s.p d) ∧ ¬ RootLe (dotI d d) (arrF d s + 1) (-dotI s.p d) ∧ -131072 ≤ arrF d s ∧ arrF d s ≤ 131072 := by
  obtain ⟨e1, e2, e3⟩ := dot_is hp hd
  obtain ⟨f1, f2, f3⟩ := dd_is hd
  have hf := dot_far hp hd
  obtain ⟨x, hx⟩ : ∃ x, -dotI s.p d = x := ⟨_, rfl⟩
  have hxx : x * x ≤ 12884901888 * dotI d d := by rw [← hx, sq_negs]; exact hf
  have hw : wrap64 (-(dotW s.p d)) = x := by rw [e1, ← hx]; exact w62 (by omega) (by omega)
  obtain ⟨D, hD⟩ : ∃ D, dotI d d = D := ⟨_, rfl⟩
  have hT : arrF d s = bsF x D 21 (-524288) 524288 := by unfold arrF; rw [hw, f1, hD]
  rw [hD] at f2 f3 hxx ⊢
  rw [hx]
  have k1 : -4194304 ≤ x := by omega
  have k2 : x ≤ 4194304 := by omega
  obtain ⟨x1, x2⟩ := ssq_in x
  have A : ∀ m, aboveW x D m = ssq x - ssq (clampB 1048576 m) * D := fun m => above_is k1 k2 (by omega) (by omega)
  have A2 : ∀ m, -1048576 ≤ m → m ≤ 1048576 → aboveW x D m = ssq x - ssq m * D := fun m h1 h2 => by rw [A, show clampB 1048576 m = m by unfold clampB; omega]
  obtain ⟨⟨q1, q2⟩, q3, q4⟩ := bsF_is (k := x) (d := D) (f := 21) (lo := -524288) (hi := 524288) (by rw [A2 _ (by omega) (by omega), show ssq (-524288) = -274877906944 by decide]; omega) (by rw [A2 _ (by omega) (by omega), show ssq (524288 + 1) = 274878955521 by decide]; omega) (by omega) (by decide)
  rw [← hT] at q1 q2 q3 q4
  rw [A2 _ (by omega) (by omega)] at q1 q2
  have r1 : RootLe D (arrF d s) x := by unfold RootLe; omega
  have r2 : ¬ RootLe D (arrF d s + 1) x := by unfold RootLe; omega
  refine ⟨r1, r2, ?_, ?_⟩
  · rcases (show -131072 ≤ arrF d s ∨ arrF d s + 1 ≤ -131072 by omega) with h | h
    · exact h
    · exfalso
      apply r2
      have h1 := ssq_mono h
      rw [show ssq (-131072) = -17179869184 by decide] at h1
      have h2 : ssq (arrF d s + 1) * D ≤ -17179869184 * D := Int.mul_le_mul_of_nonneg_right h1 (by omega)
      unfold RootLe
      omega
  · rcases (show arrF d s ≤ 131072 ∨ 131072 ≤ arrF d s by omega) with h | h
    · exact h
    · exfalso
      have h1 := ssq_mono h
      rw [show ssq 131072 = 17179869184 by decide] at h1
      have h2 : 17179869184 * D ≤ ssq (arrF d s) * D := Int.mul_le_mul_of_nonneg_right h1 (by omega)
      unfold RootLe at r1
      omega
/-- What differs says, plainly. -/
theorem diff_is {a b : Site} {d : V3} (ha : Plc9 a.p) (hb : Plc9 b.p) (hd : Dir9 d) {n slack : Int} (hn : -4000000000000 ≤ n) (hn' : n ≤ 4000000000000) (hs : 0 ≤ slack) (hs' : slack ≤ 1000000) :
    diffB a b d n slack = (decide (ssq (clampB 1048576 (n - slack)) * dotI d d ≤ ssq (dotI a.p d - dotI b.p d)) && decide (ssq (dotI a.p d - dotI b.p d) ≤ ssq (clampB 1048576 (n + slack)) * dotI d d)) := by
  obtain ⟨e1, e2, e3⟩ := dot_is ha hd
  obtain ⟨g1, g2, g3⟩ := dot_is hb hd
  obtain ⟨f1, f2, f3⟩ := dd_is hd
  have fa := dot_far ha hd
  have fb := dot_far hb hd
  have hk : wrap64 (dotW a.p d - dotW b.p d) = dotI a.p d - dotI b.p d := by rw [e1, g1]; exact w62 (by omega) (by omega)
  have hm : wrap64 (n - slack) = n - slack := w62 (by omega) (by omega)
  have hm2 : wrap64 (n + slack) = n + slack := w62 (by omega) (by omega)
  unfold diffB
  rw [hk, hm, hm2, f1, above_is (by omega) (by omega) (by omega) (by omega), above_is (by omega) (by omega) (by omega) (by omega)]
  congr 1
  · exact decide_eq_decide.2 (by omega)
  · exact decide_eq_decide.2 (by omega)
theorem siteAt_is {S : List Site} {i : Nat} (h : i < S.length) : siteAt S (i : Int) = S[i] := by unfold siteAt; simp [h]
theorem siteAt_int {S : List Site} {i : Int} (h0 : 0 ≤ i) (h : i < (S.length : Int)) : ∃ k : Nat, ∃ hk : k < S.length, i = (k : Int) ∧ siteAt S i = S[k] := ⟨i.toNat, by omega, by omega, by unfold siteAt; simp [show i.toNat < S.length by omega]⟩
/-- Two sites that heard it, each wrong by less than its slack, fit. -/
theorem pair_heard {S : List Site} {d : V3} (hS : ∀ s ∈ S, Plc9 s.p) (hd : Dir9 d) {i j : Nat} (hi : i < S.length) (hj : j < S.length) {T e1 e2 s1 s2 : Int} (h1 : -s1 < e1 ∧ e1 < s1) (h2 : -s2 < e2 ∧ e2 < s2) (b1 : s1 ≤ 100) (b2 : s2 ≤ 100) :
    pairB S d ((i : Int), arrF d S[i] + T + e2, s2) ((j : Int), arrF d S[j] + T + e1, s1) = true := by
  have pi := hS _ (List.getElem_mem hi)
  have pj := hS _ (List.getElem_mem hj)
  obtain ⟨r1, r2, r3, r4⟩ := arr_is pj hd
  obtain ⟨q1, q2, q3, q4⟩ := arr_is pi hd
  have hD := (dd_is hd).2.1
  obtain ⟨z1, z2⟩ := heard_fits hD r1 r2 q1 q2 h1 h2
  unfold pairB
  simp only
  rw [siteAt_is hi, siteAt_is hj]
  rw [show arrF d S[i] + T + e2 - (arrF d S[j] + T + e1) = (arrF d S[i] + e2) - (arrF d S[j] + e1) by omega]
  rw [show -dotI S[i].p d - -dotI S[j].p d = dotI S[j].p d - dotI S[i].p d by omega] at z1 z2
  obtain ⟨m, hm⟩ : ∃ m, (arrF d S[i] + e2) - (arrF d S[j] + e1) = m := ⟨_, rfl⟩
  have hmb : -300000 ≤ m ∧ m ≤ 300000 := by omega
  rw [hm] at z1 z2 ⊢
  rw [diff_is pj pi hd (by omega) (by omega) (by omega) (by omega), show clampB 1048576 (m - (s2 + s1)) = m - (s2 + s1) by unfold clampB; omega, show clampB 1048576 (m + (s2 + s1)) = m + (s2 + s1) by unfold clampB; omega, Bool.and_eq_true]
  exact ⟨decide_eq_true z1, decide_eq_true z2⟩
theorem fitB_iff {S : List Site} {t : List Trg} {d : V3} : fitB S t d = true ↔ ∀ k (hk : k < t.length) j (hj : j < k), pairB S d t[k] (t[j]'(by omega)) = true := by
  unfold fitB fitN
  rw [List.all_eq_true]
  constructor
  · intro h k hk j hj
    have h1 := h k (by simpa using hk)
    unfold rowB at h1
    rw [List.all_eq_true, show t.getD k (0, 0, 0) = t[k] by simp [hk]] at h1
    exact h1 _ (List.mem_take_iff_getElem.2 ⟨j, by omega, rfl⟩)
  · intro h k hk
    have hk : k < t.length := by simpa using hk
    unfold rowB
    rw [List.all_eq_true, show t.getD k (0, 0, 0) = t[k] by simp [hk]]
    intro y hy
    obtain ⟨j, hj, rfl⟩ := List.mem_take_iff_getElem.1 hy
    exact h k hk j (by omega)
theorem pick_mem {is : V3 → Bool} {n : Int} {N : Nat} {c : Int} : c ∈ pickL is (cellsL n N) ↔ 0 ≤ c ∧ c < (N : Int) ∧ is (dirV n c) = true := by
  unfold pickL cellsL
  simp only [List.mem_map, List.mem_filter, List.mem_range]
  constructor
  · rintro ⟨x, ⟨⟨k, hk, rfl⟩, h⟩, rfl⟩
    exact ⟨by simp only; omega, by simp only; omega, h⟩
  · rintro ⟨h0, h1, h2⟩
    refine ⟨(c, dirV n c), ⟨⟨c.toNat, by omega, ?_⟩, h2⟩, rfl⟩
    rw [show ((c.toNat : Nat) : Int) = c by omega]
/-- A first part of the arrivals fits where all do. -/
theorem fit_few {S : List Site} {t : List Trg} {d : V3} (m : Nat) (h : fitB S t d = true) : fitB S (t.take m) d = true := by
  rw [fitB_iff] at h ⊢
  intro k hk j hj
  simp only [List.length_take] at hk
  simp only [List.getElem_take]
  exact h k (by omega) j hj
/-- An arrival with more slack. -/
def moreT (x : Trg) : Trg := (x.1, x.2.1, x.2.2 + 3)
theorem fit_more {S : List Site} {t : List Trg} {d : V3} (hS : ∀ s ∈ S, Plc9 s.p) (hd : Dir9 d) (ht : ∀ x ∈ t, 0 ≤ x.1 ∧ x.1 < (S.length : Int) ∧ -1000000000000 ≤ x.2.1 ∧ x.2.1 ≤ 1000000000000 ∧ 0 ≤ x.2.2 ∧ x.2.2 ≤ 1000) (h : fitB S t d = true) : fitB S (t.map moreT) d = true := by
  rw [fitB_iff] at h ⊢
  intro k hk j hj
  simp only [List.length_map] at hk
  simp only [List.getElem_map]
  have hq := h k hk j hj
  obtain ⟨a1, a2, a3, a4, a5, a6⟩ := ht _ (List.getElem_mem hk)
  obtain ⟨b1, b2, b3, b4, b5, b6⟩ := ht _ (List.getElem_mem (show j < t.length by omega))
  obtain ⟨x, hx⟩ : ∃ x, t[k] = x := ⟨_, rfl⟩
  obtain ⟨y, hy⟩ : ∃ y, t[j]'(by omega) = y := ⟨_, rfl⟩
  rw [hx] at hq a1 a2 a3 a4 a5 a6 ⊢
  rw [hy] at hq b1 b2 b3 b4 b5 b6 ⊢
  obtain ⟨k1, h1, e1, q1⟩ := siteAt_int a1 a2
  obtain ⟨k2, h2, e2, q2⟩ := siteAt_int b1 b2
  have p1 := hS _ (List.getElem_mem h1)
  have p2 := hS _ (List.getElem_mem h2)
  have hD := (dd_is hd).2.1
  unfold pairB moreT at *
  simp only at hq ⊢
  rw [q1, q2] at hq ⊢
  rw [diff_is p2 p1 hd (by omega) (by omega) (by omega) (by omega), Bool.and_eq_true] at hq ⊢
  obtain ⟨g1, g2⟩ := hq
  have g1 := of_decide_eq_true g1
  have g2 := of_decide_eq_true g2
  have m1 := ssq_mono (clampB_mono (b := 1048576) (show x.2.1 - y.2.1 - (x.2.2 + 3 + (y.2.2 + 3)) ≤ x.2.1 - y.2.1 - (x.2.2 + y.2.2) by omega))
  have m2 := ssq_mono (clampB_mono (b := 1048576) (show x.2.1 - y.2.1 + (x.2.2 + y.2.2) ≤ x.2.1 - y.2.1 + (x.2.2 + 3 + (y.2.2 + 3)) by omega))
  have n1 := Int.mul_le_mul_of_nonneg_right m1 (show 0 ≤ dotI d d by omega)
  have n2 := Int.mul_le_mul_of_nonneg_right m2 (show 0 ≤ dotI d d by omega)
  exact ⟨decide_eq_true (by omega), decide_eq_true (by omega)⟩
/-- The slack and the error of a site that heard a shout. -/
def slkH (sl : List Int) (i : Nat) : Int := if i < sl.length then 1 + sl.getD i 0 % 100 else 1
def wrgH (er sl : List Int) (i : Nat) : Int := if i < er.length then er.getD i 0 % (2 * slkH sl i - 1) - (slkH sl i - 1) else 0
/-- The arrivals of a shout. -/
def hrdT (at' : List Int) (T : Int) (er sl : List Int) (k : Nat) : List Trg := (List.range k).map fun i : Nat => ((i : Int), at'.getD i 0 + T % 1073741824 + wrgH er sl i, slkH sl i)
theorem slkH_in (sl : List Int) (i : Nat) : 1 ≤ slkH sl i ∧ slkH sl i ≤ 100 := by
  unfold slkH
  split
  · omega
  · omega
theorem wrgH_in (er sl : List Int) (i : Nat) : -slkH sl i < wrgH er sl i ∧ wrgH er sl i < slkH sl i := by
  obtain ⟨h1, h2⟩ := slkH_in sl i
  unfold wrgH
  obtain ⟨s, hs⟩ : ∃ s, slkH sl i = s := ⟨_, rfl⟩
  rw [hs] at h1 h2 ⊢
  split
  · have a := Int.emod_nonneg (er.getD i 0) (show 2 * s - 1 ≠ 0 by omega)
    have b := Int.emod_lt_of_pos (er.getD i 0) (show 0 < 2 * s - 1 by omega)
    omega
  · omega
/-- What was heard of a cell's shout fits this cell. -/
theorem heard_cell {S : List Site} {d : V3} (hS : ∀ s ∈ S, Plc9 s.p) (hd : Dir9 d) (T : Int) (er sl : List Int) : fitB S (hrdT (S.map (arrF d)) T er sl S.length) d = true := by
  rw [fitB_iff]
  intro k hk j hj
  unfold hrdT at hk ⊢
  simp only [List.length_map, List.length_range] at hk
  simp only [List.getElem_map, List.getElem_range]
  have e : ∀ i, (h : i < S.length) → (S.map (arrF d)).getD i 0 = arrF d S[i] := fun i h => by simp [h]
  rw [e k hk, e j (by omega)]
  exact pair_heard hS hd hk (by omega) (wrgH_in _ _ _) (wrgH_in _ _ _) (slkH_in _ _).2 (slkH_in _ _).2
/-- They are arrivals. -/
theorem heard_arr {at' : List Int} {m : Nat} (ha : ∀ i, i < m → -131072 ≤ at'.getD i 0 ∧ at'.getD i 0 ≤ 131072) (T : Int) (er sl : List Int) : ∀ x ∈ hrdT at' T er sl m, 0 ≤ x.1 ∧ x.1 < (m : Int) ∧ -1000000000000 ≤ x.2.1 ∧ x.2.1 ≤ 1000000000000 ∧ 0 ≤ x.2.2 ∧ x.2.2 ≤ 1000 := by
  intro x hx
  unfold hrdT at hx
  obtain ⟨i, hi, rfl⟩ := List.mem_map.1 hx
  have hi := List.mem_range.1 hi
  obtain ⟨a, b⟩ := ha i hi
  obtain ⟨s1, s2⟩ := slkH_in sl i
  obtain ⟨w1, w2⟩ := wrgH_in er sl i
  simp only
  exact ⟨by omega, by omega, by omega, by omega, by omega, by omega⟩
/-- Arrivals whose sites are 0, 1, 2 and on. -/
theorem arr_row {m : Nat} {t : List Trg} (h2 : 2 ≤ t.length) (hm : t.length ≤ m) (h0 : ∀ i (h : i < t.length), t[i].1 = (i : Int)) (hb : ∀ x ∈ t, -1000000000000 ≤ x.2.1 ∧ x.2.1 ≤ 1000000000000 ∧ 0 ≤ x.2.2 ∧ x.2.2 ≤ 2000) : arrB m t = true := by
  unfold arrB
  rw [Bool.and_eq_true]
  refine ⟨?_, decide_eq_true h2⟩
  unfold arrN
  rw [List.all_eq_true]
  intro k hk
  have hk : k < t.length := by simpa using hk
  have e := h0 k hk
  obtain ⟨b1, b2, b3, b4⟩ := hb _ (List.getElem_mem hk)
  unfold arrStep
  rw [show t.getD k (0, 0, 0) = t[k] by simp [hk]]
  simp only [Bool.and_eq_true]
  refine ⟨inB_true.2 ⟨by omega, by omega⟩, ?_, inB_true.2 ⟨by omega, by omega⟩, inB_true.2 ⟨by omega, by omega⟩⟩
  by_cases hk0 : k = 0
  · simp [hk0]
  · have e2 := h0 (k - 1) (by omega)
    rw [show t.getD (k - 1) (0, 0, 0) = t[k - 1] by simp [show k - 1 < t.length by omega]]
    rw [Bool.or_eq_true]
    exact .inr (decide_eq_true (by omega))
end Go.Proofs.YtpphnnijnnfngaaGreatDoor
