/-
  The walk of fork, of the specification: is there a fork of a version, and who signed two ways.
-/
import Derived.Test.YtohfofecbdfkgaaGreatDoorU24
import Derived.Test.YtohfofecbdfkgaaGreatDoorU20
import Derived.Deep.AppendLies
namespace Go.Proofs.YtohfofecbdfkgaaGreatDoor
open Go.RowKit Al

theorem lt3 {p : Nat → Prop} (h : p 0 ∧ p 1 ∧ p 2) : ∀ j, j < 3 → p j
  | 0, _ => h.1 | 1, _ => h.2.1 | 2, _ => h.2.2
  | n + 3, h' => absurd h' (by omega)
@[reducible] def fkL (ev : ByteArray) (v : Int) (A : Option Addr) (n c : Nat) : List Value := [.string ev, .int .i64 v, .slice A n c]
/-- Where the fork lies while it is made. -/
structure FkSt (w w0 wr : World) (ev : ByteArray) (v : Int) (who : List Int) (A : Option Addr) (c : Nat) : Prop where
  bel : Below (w.heap.size + 1 + 1) w0 wr
  n0 : wr.cell? ⟨w.heap.size + 1 + 1, 0, none⟩ = some (.string ev)
  n1 : wr.cell? ⟨w.heap.size + 1 + 1, 1, none⟩ = some (.int .i64 v)
  n2 : wr.cell? ⟨w.heap.size + 1 + 1, 2, none⟩ = some (.slice A who.length c)
  fz : wr.frozen? ⟨w.heap.size + 1 + 1, 2, none⟩ = false
  own : wr.ownsRow (w.heap.size + 1 + 1 + 1) 3 1 (.slice A who.length c) who.length (ints who)
  size : w.heap.size + 1 + 1 + 1 ≤ wr.heap.size
def FkRel (w w0 wr : World) (ev : ByteArray) (L : List It) (v : Int) (nk : Nat) (b i : Value) : Prop :=
  ∃ (k : Nat) (A : Option Addr) (c : Nat), k ≤ nk ∧ b = .bool (decide (0 < k) && pairAny (splitV v) L L.length) ∧ i = .int .i64 k ∧ FkSt w w0 wr ev v (forkWho L v k) A c
def FmRel (w0 : World) (X : Bool) (v s : Int) (L : List It) (b t i : Value) (wz : World) : Prop :=
  ∃ (k : Nat) (bb tt : Bool), k ≤ L.length ∧ Hid ((X || pairAny (splitV v) L k) = bb) ∧ Hid (pairAny (twoV v s) L k = tt) ∧ b = .bool bb ∧ t = .bool tt ∧ i = .int .i64 k ∧ Below w0.heap.size w0 wz
def FnRel (w0 : World) (X : Bool) (v s : Int) (L : List It) (k : Nat) (b t j : Value) (wz : World) : Prop :=
  ∃ (jj : Nat) (bb tt : Bool), jj ≤ k ∧ Hid ((X || pairAny (splitV v) L k || pairIn (splitV v) L k jj) = bb) ∧ Hid ((pairAny (twoV v s) L k || pairIn (twoV v s) L k jj) = tt) ∧ b = .bool bb ∧ t = .bool tt ∧ j = .int .i64 jj ∧ Below w0.heap.size w0 wz
/-- What it hands back: the fork, whose signers lie in memory of the call's own; is there one. -/
def FkT (ev : ByteArray) (v : Int) (who : List Int) (is : Bool) (w : World) (e : Ending) (w' : World) : Prop := ∃ A c, e = .returned (.tuple #[.agg #[.string ev, .int .i64 v, .slice A who.length c], .bool is]) ∧ w'.ownsRow w.heap.size 3 1 (.slice A who.length c) who.length (ints who) ∧ Below w.heap.size w w'
theorem hasY_ (y : It) (s : Int) (w : World) (hn : NIn w y.n y.A y.c y.S y.sc) :
    Calls Tryz.prog 107 #[y.n.val y.A y.c y.S y.sc, .int .i64 s] w fun e w' => e = .returned (.bool (hasS s y)) ∧ Below w.heap.size w w' := has_ y.n y.A y.c y.S y.sc s _ w rfl hn
theorem pairAny_succ (p : It → It → Bool) (L : List It) (i : Nat) : pairAny p L (i + 1) = (pairAny p L i || pairIn p L i i) := rfl
theorem pair_no {p : It → It → Bool} {L : List It} {X tt : Bool} {k j : Nat} (hk : k < L.length) (hj : j < L.length) (hp : p L[k] L[j] = false) (h : (X || pairAny p L k || pairIn p L k j) = tt) : (X || pairAny p L k || pairIn p L k (j + 1)) = tt := by
  rw [pairIn_next hk hj, hp, Bool.or_false]
  exact h
theorem pair_no2 {p : It → It → Bool} {L : List It} {tt : Bool} {k j : Nat} (hk : k < L.length) (hj : j < L.length) (hp : p L[k] L[j] = false) (h : (pairAny p L k || pairIn p L k j) = tt) : (pairAny p L k || pairIn p L k (j + 1)) = tt := by
  rw [pairIn_next hk hj, hp, Bool.or_false]
  exact h
set_option maxRecDepth 100000 in
set_option maxHeartbeats 8000000 in
theorem fork_ (L : List It) (N : Option Addr) (nc : Nat) (ks : List (Int × Int)) (q : Int) (K : Option Addr) (kc : Nat) (ev : ByteArray) (v : Int) (who : List Int) (is : Bool) (w : World) (hwho : forkWho L v ks.length = who) (his : pairAny (splitV v) L L.length = is)
    (hL : Sl w w.heap.size 10 N L.length nc (itCells L)) (hI : ∀ x ∈ L, NIn w x.n x.A x.c x.S x.sc) (hlen : L.length ≤ 1048576) (hks : 0 < ks.length) (hks2 : ks.length ≤ 8) :
    Calls Tryz.prog 71 #[rollV ks K kc q, .string ev, .int .i64 v, .slice N L.length nc] w (FkT ev v who is w) := by
  obtain ⟨i0, hi, hz0, hz1, hz2⟩ := info_parts infoInt
  have HL := Lib.hid hL
  have HI := Lib.hid hI
  have HW := Lib.hid hwho
  have HIS := Lib.hid his
  clear hL hI hwho his
  go_enter Tryz.func71, Tryz.ntmps71
  go_wp2_with fail
  go_loopw [11, 12] (fun b i wr => FkRel w ((w.alloc (.cells #[.slice K ks.length kc, .int .i64 q] 24)).alloc (.cells #[.string ⟨#[]⟩, .int .i64 0, .slice none 0 0] 73)) wr ev L v ks.length b i) (fun _ i _ => ks.length - (Go.RowKit.intOf i).toNat)
  case atStart =>
    refine ⟨0, none, 0, Nat.zero_le _, rfl, rfl, ⟨(Below.refl _ _).alloc (by simp) _, ?_, ?_, ?_, ?_, World.ownsRow_nil _ _ _ _, by simp⟩⟩ <;> simp [go_sem, forkWho]
  case round =>
    obtain ⟨k, A, c, hk, rfl, rfl, hst⟩ := hrel
    have hn0 := hst.n0
    have hn1 := hst.n1
    have hn2 := hst.n2
    have hf2 := hst.fz
    have hsz := hst.size
    have hB := hst.bel
    obtain ⟨hcw, hfw⟩ := bcell hB
    have HST := Lib.hid hst
    have HB := Lib.hid hB
    have HWB : Hid (Below w.heap.size w wr) := ((show Below w.heap.size w _ from by (repeat (first | exact Below.refl _ _ | assumption | refine below_drewN ?_ _ | refine Below.drew ?_ | refine Below.setCell ?_ (by first | omega | (simp; done) | (simp; omega)) _ | refine Below.alloc ?_ (by first | omega | (simp; done) | (simp; omega)) _))).trans (hB.mono (by omega)))
    have hr0 : wr.cell? ⟨w.heap.size, 0, none⟩ = some (.slice K ks.length kc) := by rw [hcw _ _ (by omega)]; simp [go_sem]
    have l0 : w.heap.size < wr.heap.size := by omega
    clear hB hst hcw hfw
    by_cases hlt : k < ks.length
    · have i1 : (k : Int) < (ks.length : Int) := by omega
      obtain ⟨X, hX⟩ : ∃ X, (decide (0 < k) && pairAny (splitV v) L L.length) = X := ⟨_, rfl⟩
      rw [hX]
      have HX := Lib.hid hX
      clear hX
      go_wp2_with fail
      go_loopw [11, 13, 14] (fun b t i wz => FmRel wr X v k L b t i wz) (fun _ _ i _ => L.length - (Go.RowKit.intOf i).toNat)
      case atStart => exact ⟨0, X, false, Nat.zero_le _, (by show _ = _; simp [pairAny]), rfl, rfl, rfl, rfl, Below.refl _ _⟩
      case round =>
        obtain ⟨i, bb, tt, hi', HBB, HTT, rfl, rfl, rfl, hBm⟩ := hrel
        have HBm := Lib.hid hBm
        have zm := hBm.size
        clear hBm
        by_cases hil : i < L.length
        · go_wp2_with fail
          go_loopw [11, 13, 15] (fun b t j wz => FnRel wr X v k L i b t j wz) (fun _ _ j _ => i - (Go.RowKit.intOf j).toNat)
          case atStart => exact ⟨0, bb, tt, Nat.zero_le _, (by show _ = _; rw [HBB.out]; simp [pairIn]), (by show _ = _; rw [HTT.out]; simp [pairIn]), rfl, rfl, rfl, Below.refl _ _⟩
          case round =>
            obtain ⟨j, b2, t2, hj, HB2, HT2, rfl, rfl, rfl, hBn⟩ := hrel
            have HBn := Lib.hid hBn
            have HBw : Hid (Below w.heap.size w wr) := HWB.out.trans ((HBm.out.trans (hBn.mono zm)).mono HWB.out.size)
            have zn := hBn.size
            have zw := HBw.out.size
            clear hBn
            by_cases hjl : j < i
            · have hjL : j < L.length := by omega
              obtain ⟨nb, off, rfl, hnb, p0, p1, p2, p3, p4, p5, p6, p7, p8, p9⟩ := (HL.out.below HBw.out).it_at hil
              obtain ⟨nb', off', e2, hnb', q0, q1, q2, q3, q4, q5, q6, q7, q8, q9⟩ := (HL.out.below HBw.out).it_at hjL
              cases e2
              have hnb2 : nb < wr.heap.size := by omega
              have m0 : (0 : Int) ≤ (i : Int) := by omega
              have m1 : (i : Int) < (L.length : Int) := by omega
              have m2 : (0 : Int) ≤ (j : Int) := by omega
              have m3 : (j : Int) < (L.length : Int) := by omega
              have m4 : (j : Int) < (i : Int) := by omega
              have HN1 := Lib.hid ((HI.out L[i] (List.getElem_mem hil)).below HBw.out)
              have HN2 := Lib.hid ((HI.out L[j] (List.getElem_mem hjL)).below HBw.out)
              have HP1 := Lib.hid (pairIn_next (p := splitV v) hil hjL)
              have HP2 := Lib.hid (pairIn_next (p := twoV v k) hil hjL)
              have HNO : Hid (splitV v L[i] L[j] = false → ((X || pairAny (splitV v) L i || pairIn (splitV v) L i (j + 1)) = b2) ∧ ((pairAny (twoV v k) L i || pairIn (twoV v k) L i (j + 1)) = t2)) := fun h => ⟨pair_no hil hjL h HB2.out, pair_no2 hil hjL (by unfold twoV; rw [h]; rfl) HT2.out⟩
              obtain ⟨x, hx⟩ : ∃ x, x = L[i] := ⟨_, rfl⟩
              obtain ⟨u, hu⟩ : ∃ u, u = L[j] := ⟨_, rfl⟩
              rw [← hx] at p0 p1 p2 p3 p4 p5 p6 p7 p8 p9 HN1 HP1 HP2 HNO
              rw [← hu] at q0 q1 q2 q3 q4 q5 q6 q7 q8 q9 HN2 HP1 HP2 HNO
              clear hx hu
              cases hv1 : (x.n.a.ver == v) with
              | false =>
                obtain ⟨HR1, HR2⟩ : Hid _ ∧ Hid _ := HNO.out (by unfold splitV; rw [hv1]; rfl)
                go_wp2_with fail
                refine wp_region_bw2 (by kernel_rfl) (by kernel_rfl) (fun hbwc => ?_)
                repeat (go_big_quiet_step (fail))
                refine wpQuiet_nil ?_
                clear hbwc
                intro w3 hb
                have HB3 := Lib.hid (HBn.out.trans (Below.mono ((show Below wr.heap.size wr _ from (by (repeat (first | exact Below.refl _ _ | assumption | refine below_drewN ?_ _ | refine Below.drew ?_ | refine Below.setCell ?_ (by first | omega | (simp; done) | (simp; omega)) _ | refine Below.alloc ?_ (by first | omega | (simp; done) | (simp; omega)) _)))).trans (hb.mono (by first | omega | (simp; done) | (simp; omega)))) HBn.out.size))
                clear hb
                go_wp2_with fail
                go_roundw
                case rel => exact ⟨j + 1, b2, t2, by omega, HR1, HR2, rfl, rfl, by go_num, HB3.out⟩
                case measure => simp [Go.RowKit.intOf]; omega
              | true =>
                cases hv2 : (u.n.a.ver == v) with
                | false =>
                  obtain ⟨HR1, HR2⟩ : Hid _ ∧ Hid _ := HNO.out (by unfold splitV; rw [hv1, hv2]; rfl)
                  go_wp2_with fail
                  refine wp_region_bw2 (by kernel_rfl) (by kernel_rfl) (fun hbwc => ?_)
                  repeat (go_big_quiet_step (fail))
                  refine wpQuiet_nil ?_
                  clear hbwc
                  intro w3 hb
                  have HB3 := Lib.hid (HBn.out.trans (Below.mono ((show Below wr.heap.size wr _ from (by (repeat (first | exact Below.refl _ _ | assumption | refine below_drewN ?_ _ | refine Below.drew ?_ | refine Below.setCell ?_ (by first | omega | (simp; done) | (simp; omega)) _ | refine Below.alloc ?_ (by first | omega | (simp; done) | (simp; omega)) _)))).trans (hb.mono (by first | omega | (simp; done) | (simp; omega)))) HBn.out.size))
                  clear hb
                  go_wp2_with fail
                  go_roundw
                  case rel => exact ⟨j + 1, b2, t2, by omega, HR1, HR2, rfl, rfl, by go_num, HB3.out⟩
                  case measure => simp [Go.RowKit.intOf]; omega
                | true =>
                  cases hsb : sameB x.n.a u.n.a with
                  | true =>
                    have HSB := Lib.hid hsb
                    obtain ⟨HR1, HR2⟩ : Hid _ ∧ Hid _ := HNO.out (by unfold splitV; rw [hv1, hv2, hsb]; rfl)
                    clear hsb
                    go_wp2_with fail
                    refine wp_region_bw2 (by kernel_rfl) (by kernel_rfl) (fun hbwc => ?_)
                    repeat (go_big_quiet_step ((go_at_call 78; exact bwCall (rSame_is x.n.a u.n.a x.A x.c u.A u.c _ (AIn.below (AIn.below HN1.out.al (by (repeat (first | exact Below.refl _ _ | assumption | refine below_drewN ?_ _ | refine Below.drew ?_ | refine Below.setCell ?_ (by first | omega | (simp; done) | (simp; omega)) _ | refine Below.alloc ?_ (by first | omega | (simp; done) | (simp; omega)) _)))) (BW.below _)) (AIn.below (AIn.below HN2.out.al (by (repeat (first | exact Below.refl _ _ | assumption | refine below_drewN ?_ _ | refine Below.drew ?_ | refine Below.setCell ?_ (by first | omega | (simp; done) | (simp; omega)) _ | refine Below.alloc ?_ (by first | omega | (simp; done) | (simp; omega)) _)))) (BW.below _)) true HSB.out))))
                    refine wpQuiet_nil ?_
                    clear hbwc
                    intro w3 hb
                    have HB3 := Lib.hid (HBn.out.trans (Below.mono ((show Below wr.heap.size wr _ from (by (repeat (first | exact Below.refl _ _ | assumption | refine below_drewN ?_ _ | refine Below.drew ?_ | refine Below.setCell ?_ (by first | omega | (simp; done) | (simp; omega)) _ | refine Below.alloc ?_ (by first | omega | (simp; done) | (simp; omega)) _)))).trans (hb.mono (by first | omega | (simp; done) | (simp; omega)))) HBn.out.size))
                    clear hb
                    go_wp2_with fail
                    go_roundw
                    case rel => exact ⟨j + 1, b2, t2, by omega, HR1, HR2, rfl, rfl, by go_num, HB3.out⟩
                    case measure => simp [Go.RowKit.intOf]; omega
                  | false =>
                    have HSB := Lib.hid hsb
                    have hsp : splitV v x u = true := by unfold splitV; rw [hv1, hv2, hsb]; rfl
                    have HR1 : Hid ((X || pairAny (splitV v) L i || pairIn (splitV v) L i (j + 1)) = true) := by show _ = _; rw [HP1.out, hsp]; simp
                    cases t2 with
                    | true =>
                      have HR2 : Hid ((pairAny (twoV v k) L i || pairIn (twoV v k) L i (j + 1)) = true) := by show _ = _; rw [HP2.out, ← Bool.or_assoc, HT2.out]; rfl
                      clear hsb hsp
                      go_wp2_with fail
                      refine wp_region_bw2 (by kernel_rfl) (by kernel_rfl) (fun hbwc => ?_)
                      repeat (go_big_quiet_step ((go_at_call 78; exact bwCall (rSame_is x.n.a u.n.a x.A x.c u.A u.c _ (AIn.below (AIn.below HN1.out.al (by (repeat (first | exact Below.refl _ _ | assumption | refine below_drewN ?_ _ | refine Below.drew ?_ | refine Below.setCell ?_ (by first | omega | (simp; done) | (simp; omega)) _ | refine Below.alloc ?_ (by first | omega | (simp; done) | (simp; omega)) _)))) (BW.below _)) (AIn.below (AIn.below HN2.out.al (by (repeat (first | exact Below.refl _ _ | assumption | refine below_drewN ?_ _ | refine Below.drew ?_ | refine Below.setCell ?_ (by first | omega | (simp; done) | (simp; omega)) _ | refine Below.alloc ?_ (by first | omega | (simp; done) | (simp; omega)) _)))) (BW.below _)) false HSB.out))))
                      refine wpQuiet_nil ?_
                      clear hbwc
                      intro w3 hb
                      obtain ⟨hcw3, hfw3⟩ := bcell hb
                      have z3 := hb.size
                      (try simp at z3)
                      have l3 : nb < w3.heap.size := by omega
                      have HB3 := Lib.hid ((show Below wr.heap.size wr _ from (by (repeat (first | exact Below.refl _ _ | assumption | refine below_drewN ?_ _ | refine Below.drew ?_ | refine Below.setCell ?_ (by first | omega | (simp; done) | (simp; omega)) _ | refine Below.alloc ?_ (by first | omega | (simp; done) | (simp; omega)) _)))).trans (hb.mono (by first | omega | (simp; done) | (simp; omega))))
                      clear hb
                      go_wp2_with fail
                      go_roundw
                      case rel => exact ⟨j + 1, true, true, by omega, HR1, HR2, rfl, rfl, by go_num, HBn.out.trans (HB3.out.mono HBn.out.size)⟩
                      case measure => simp [Go.RowKit.intOf]; omega
                    | false =>
                      cases hh1 : hasS k x with
                      | false =>
                        have HH1 := Lib.hid hh1
                        have HR2 : Hid ((pairAny (twoV v k) L i || pairIn (twoV v k) L i (j + 1)) = false) := by show _ = _; rw [HP2.out, ← Bool.or_assoc, HT2.out]; unfold twoV; rw [hsp, hh1]; rfl
                        clear hsb hsp
                        go_wp2_with fail
                        refine wp_region_bw2 (by kernel_rfl) (by kernel_rfl) (fun hbwc => ?_)
                        repeat (go_big_quiet_step ((go_at_call 78; exact bwCall (rSame_is x.n.a u.n.a x.A x.c u.A u.c _ (AIn.below (AIn.below HN1.out.al (by (repeat (first | exact Below.refl _ _ | assumption | refine below_drewN ?_ _ | refine Below.drew ?_ | refine Below.setCell ?_ (by first | omega | (simp; done) | (simp; omega)) _ | refine Below.alloc ?_ (by first | omega | (simp; done) | (simp; omega)) _)))) (BW.below _)) (AIn.below (AIn.below HN2.out.al (by (repeat (first | exact Below.refl _ _ | assumption | refine below_drewN ?_ _ | refine Below.drew ?_ | refine Below.setCell ?_ (by first | omega | (simp; done) | (simp; omega)) _ | refine Below.alloc ?_ (by first | omega | (simp; done) | (simp; omega)) _)))) (BW.below _)) false HSB.out))))
                        refine wpQuiet_nil ?_
                        clear hbwc
                        intro w3 hb
                        obtain ⟨hcw3, hfw3⟩ := bcell hb
                        have z3 := hb.size
                        (try simp at z3)
                        have l3 : nb < w3.heap.size := by omega
                        have HB3 := Lib.hid ((show Below wr.heap.size wr _ from (by (repeat (first | exact Below.refl _ _ | assumption | refine below_drewN ?_ _ | refine Below.drew ?_ | refine Below.setCell ?_ (by first | omega | (simp; done) | (simp; omega)) _ | refine Below.alloc ?_ (by first | omega | (simp; done) | (simp; omega)) _)))).trans (hb.mono (by first | omega | (simp; done) | (simp; omega))))
                        clear hb
                        have Hw5 := HB3
                        go_wp2_with (go_at_call 107; refine (hasY_ _ k _ (by first | exact HN1.out.below Hw5.out | exact HN2.out.below Hw5.out)).mono ?_; rintro e w5 ⟨rfl, hb5⟩; obtain ⟨hcw5, hfw5⟩ := bcell hb5; have zw5 := hb5.size; have l5 : nb < w5.heap.size := (by omega); have Hw5 := Lib.hid (Hw5.out.trans (hb5.mono Hw5.out.size)); clear hb5)
                        go_roundw
                        case rel => exact ⟨j + 1, true, false, by omega, HR1, HR2, rfl, rfl, by go_num, HBn.out.trans (Hw5.out.mono HBn.out.size)⟩
                        case measure => simp [Go.RowKit.intOf]; omega
                      | true =>
                        cases hh2 : hasS k u with
                        | false =>
                          have HH1 := Lib.hid hh1
                          have HH2 := Lib.hid hh2
                          have HR2 : Hid ((pairAny (twoV v k) L i || pairIn (twoV v k) L i (j + 1)) = false) := by show _ = _; rw [HP2.out, ← Bool.or_assoc, HT2.out]; unfold twoV; rw [hsp, hh1, hh2]; rfl
                          clear hsb hsp
                          go_wp2_with fail
                          refine wp_region_bw2 (by kernel_rfl) (by kernel_rfl) (fun hbwc => ?_)
                          repeat (go_big_quiet_step ((go_at_call 78; exact bwCall (rSame_is x.n.a u.n.a x.A x.c u.A u.c _ (AIn.below (AIn.below HN1.out.al (by (repeat (first | exact Below.refl _ _ | assumption | refine below_drewN ?_ _ | refine Below.drew ?_ | refine Below.setCell ?_ (by first | omega | (simp; done) | (simp; omega)) _ | refine Below.alloc ?_ (by first | omega | (simp; done) | (simp; omega)) _)))) (BW.below _)) (AIn.below (AIn.below HN2.out.al (by (repeat (first | exact Below.refl _ _ | assumption | refine below_drewN ?_ _ | refine Below.drew ?_ | refine Below.setCell ?_ (by first | omega | (simp; done) | (simp; omega)) _ | refine Below.alloc ?_ (by first | omega | (simp; done) | (simp; omega)) _)))) (BW.below _)) false HSB.out))))
                          refine wpQuiet_nil ?_
                          clear hbwc
                          intro w3 hb
                          obtain ⟨hcw3, hfw3⟩ := bcell hb
                          have z3 := hb.size
                          (try simp at z3)
                          have l3 : nb < w3.heap.size := by omega
                          have HB3 := Lib.hid ((show Below wr.heap.size wr _ from (by (repeat (first | exact Below.refl _ _ | assumption | refine below_drewN ?_ _ | refine Below.drew ?_ | refine Below.setCell ?_ (by first | omega | (simp; done) | (simp; omega)) _ | refine Below.alloc ?_ (by first | omega | (simp; done) | (simp; omega)) _)))).trans (hb.mono (by first | omega | (simp; done) | (simp; omega))))
                          clear hb
                          have Hw5 := HB3
                          go_wp2_with (go_at_call 107; refine (hasY_ _ k _ (by first | exact HN1.out.below Hw5.out | exact HN2.out.below Hw5.out)).mono ?_; rintro e w5 ⟨rfl, hb5⟩; obtain ⟨hcw5, hfw5⟩ := bcell hb5; have zw5 := hb5.size; have l5 : nb < w5.heap.size := (by omega); have Hw5 := Lib.hid (Hw5.out.trans (hb5.mono Hw5.out.size)); clear hb5)
                          go_roundw
                          case rel => exact ⟨j + 1, true, false, by omega, HR1, HR2, rfl, rfl, by go_num, HBn.out.trans (Hw5.out.mono HBn.out.size)⟩
                          case measure => simp [Go.RowKit.intOf]; omega
                        | true =>
                          have HH1 := Lib.hid hh1
                          have HH2 := Lib.hid hh2
                          have HR2 : Hid ((pairAny (twoV v k) L i || pairIn (twoV v k) L i (j + 1)) = true) := by show _ = _; rw [HP2.out, ← Bool.or_assoc, HT2.out]; unfold twoV; rw [hsp, hh1, hh2]; rfl
                          clear hsb hsp
                          go_wp2_with fail
                          refine wp_region_bw2 (by kernel_rfl) (by kernel_rfl) (fun hbwc => ?_)
                          repeat (go_big_quiet_step ((go_at_call 78; exact bwCall (rSame_is x.n.a u.n.a x.A x.c u.A u.c _ (AIn.below (AIn.below HN1.out.al (by (repeat (first | exact Below.refl _ _ | assumption | refine below_drewN ?_ _ | refine Below.drew ?_ | refine Below.setCell ?_ (by first | omega | (simp; done) | (simp; omega)) _ | refine Below.alloc ?_ (by first | omega | (simp; done) | (simp; omega)) _)))) (BW.below _)) (AIn.below (AIn.below HN2.out.al (by (repeat (first | exact Below.refl _ _ | assumption | refine below_drewN ?_ _ | refine Below.drew ?_ | refine Below.setCell ?_ (by first | omega | (simp; done) | (simp; omega)) _ | refine Below.alloc ?_ (by first | omega | (simp; done) | (simp; omega)) _)))) (BW.below _)) false HSB.out))))
                          refine wpQuiet_nil ?_
                          clear hbwc
                          intro w3 hb
                          obtain ⟨hcw3, hfw3⟩ := bcell hb
                          have z3 := hb.size
                          (try simp at z3)
                          have l3 : nb < w3.heap.size := by omega
                          have HB3 := Lib.hid ((show Below wr.heap.size wr _ from (by (repeat (first | exact Below.refl _ _ | assumption | refine below_drewN ?_ _ | refine Below.drew ?_ | refine Below.setCell ?_ (by first | omega | (simp; done) | (simp; omega)) _ | refine Below.alloc ?_ (by first | omega | (simp; done) | (simp; omega)) _)))).trans (hb.mono (by first | omega | (simp; done) | (simp; omega))))
                          clear hb
                          have Hw5 := HB3
                          go_wp2_with (go_at_call 107; refine (hasY_ _ k _ (by first | exact HN1.out.below Hw5.out | exact HN2.out.below Hw5.out)).mono ?_; rintro e w5 ⟨rfl, hb5⟩; obtain ⟨hcw5, hfw5⟩ := bcell hb5; have zw5 := hb5.size; have l5 : nb < w5.heap.size := (by omega); have Hw5 := Lib.hid (Hw5.out.trans (hb5.mono Hw5.out.size)); clear hb5)
                          go_roundw
                          case rel => exact ⟨j + 1, true, true, by omega, HR1, HR2, rfl, rfl, by go_num, HBn.out.trans (Hw5.out.mono HBn.out.size)⟩
                          case measure => simp [Go.RowKit.intOf]; omega
            · obtain rfl : j = i := by omega
              go_wp2_with fail
              go_roundw
              case rel => exact ⟨j + 1, b2, t2, by omega, (by show _ = _; rw [← HB2.out, pairAny_succ, Bool.or_assoc]), (by show _ = _; rw [← HT2.out, pairAny_succ]), rfl, rfl, by go_num, HBm.out.trans (HBn.out.mono zm)⟩
              case measure => simp [Go.RowKit.intOf]; omega
        · obtain rfl : i = L.length := by omega
          have hb9 : bb = (decide (0 < k + 1) && pairAny (splitV v) L L.length) := by
            rw [← HBB.out, ← HX.out]
            cases pairAny (splitV v) L L.length <;> simp
          obtain ⟨hcm, hfm⟩ := bcell HBm.out
          have l2 : w.heap.size + 1 + 1 < wr.heap.size := by omega
          have HO1 := Lib.hid (own_below HST.out.own (Nat.le_refl _) HBm.out)
          have HWm := Lib.hid (HB.out.trans (HBm.out.mono (by omega)))
          have n0m := (hcm _ _ (by omega)).trans hn0
          have n1m := (hcm _ _ (by omega)).trans hn1
          have n2m := (hcm _ _ (by omega)).trans hn2
          have f2m := (hfm _ _ (by omega)).trans hf2
          clear hcm hfm hn0 hn1 hn2 hf2
          cases tt with
          | false =>
            have HR : Hid (forkWho L v (k + 1) = forkWho L v k) := by show _ = _; rw [forkWho_next, HTT.out]; simp
            go_wp2_with fail
            go_roundw
            case rel =>
              refine ⟨k + 1, A, c, by omega, by rw [hb9], by go_num, ?_⟩
              rw [HR.out]
              exact ⟨HWm.out, n0m, n1m, n2m, f2m, HO1.out, by omega⟩
            case measure => simp [Go.RowKit.intOf]; omega
          | true =>
            have HR : Hid (forkWho L v (k + 1) = forkWho L v k ++ [(k : Int)]) := by show _ = _; rw [forkWho_next, HTT.out]; simp
            have hwl := forkWho_len L v k
            obtain ⟨W, hW⟩ : ∃ W, W = forkWho L v k := ⟨_, rfl⟩
            rw [← hW] at n2m HO1 HR hwl
            clear hW
            go_wp2_with (at_builtin; go_must (refine wpList_append_lies _ rfl _ _ 39 rfl (w.heap.size + 1 + 1 + 1) 3 i0 (.int .i64 0) 1 8 Tryz.underlying39 hi hz0 hz1 hz2 rfl (by decide) (.slice A W.length c) W.length (ints W) rfl (own_below HO1.out (Nat.le_refl _) ((Below.refl _ _).alloc (Nat.le_refl _) _)) _ 1 1 [.int .i64 (k : Int)] rfl rfl (World.news_of_block (heap_alloc_new wr _)) (by intro u hu; rw [List.mem_singleton.1 hu]; rfl) (by decide) (by unfold maxLen; omega) (by omega) (by simp; omega) _ rfl ?_); intro g cap w6 hown6 hg6 hat6 hlt6; have z6 := hg6.size; (try simp at z6); have hfar : ∀ o, w6.cell? ⟨w.heap.size + 1 + 1, o, none⟩ = (wr.alloc (.cells #[.int .i64 (k : Int)] 3)).cell? ⟨w.heap.size + 1 + 1, o, none⟩ := fun o => hg6.cell_far ⟨w.heap.size + 1 + 1, o, none⟩ (by simp; omega) (fun e => by have h9 := (own_lt HO1.out e.symm).1; simp at h9; omega); have e0 := (hfar 0).trans (show _ = some (.string ev) by simp [go_sem, n0m, l2]); have e1 := (hfar 1).trans (show _ = some (.int .i64 v) by simp [go_sem, n1m, l2]); have e2 := (hfar 2).trans (show _ = some (.slice A W.length c) by simp [go_sem, n2m, l2]); have e3 : w6.frozen? ⟨w.heap.size + 1 + 1, 2, none⟩ = false := (hg6.frozen_far ⟨w.heap.size + 1 + 1, 2, none⟩ (by simp; omega) (fun e => by have h9 := (own_lt HO1.out e.symm).1; simp at h9; omega)).trans (by simp [go_sem, f2m, l2]); have l6 : w.heap.size + 1 + 1 < w6.heap.size := (by omega); have HG6 := Lib.hid hg6; have HO6 := Lib.hid hown6; clear hg6 hown6 hfar n0m n1m n2m f2m)
            go_roundw
            case rel =>
              refine ⟨k + 1, some ⟨g, 0, none⟩, cap, by omega, by simp, by go_num, ?_⟩
              rw [HR.out]
              have h1 : (W ++ [(k : Int)]).length = W.length + 1 := by simp
              refine ⟨((HWm.out.alloc (by omega) _).grown HG6.out (by simp; omega) (fun i hi => by have := (own_lt HO1.out hi).1; omega)).setCell (by simp) _, ?_, ?_, ?_, ?_, ?_, by simp; omega⟩
              · simp [go_sem, e0]
              · simp [go_sem, e1]
              · rw [h1]; simp [go_sem, e2]
              · simp [go_sem, e3]
              · rw [h1, show ints (W ++ [(k : Int)]) = ints W ++ [.int .i64 (k : Int)] by simp [ints]]
                exact ownsRow_setCell_below HO6.out (by simp) _
            case measure => simp [Go.RowKit.intOf]; omega
    · obtain rfl : k = ks.length := by omega
      have hd : (decide (0 < ks.length) && pairAny (splitV v) L L.length) = is := by rw [decide_eq_true hks, HIS.out]; rfl
      rw [hd]
      obtain ⟨hcw, hfw⟩ := bcell HB.out
      have l1 : w.heap.size + 1 < wr.heap.size := by omega
      have l2 : w.heap.size + 1 + 1 < wr.heap.size := by omega
      have HO1 := Lib.hid HST.out.own
      have h0 := HW.out
      rw [h0] at HO1 hn2
      clear h0 hd
      go_wp2_with fail
      refine finCells (w := wr) (w.heap.size + 1) (fkL ev v A who.length c) (.tuple #[.agg (fkL ev v A who.length c).toArray, .bool is]) rfl ?_ ?_ (show FkT ev v who is w _ _ from ⟨A, c, rfl, ?_, ?_⟩)
      · intro W hW
        have r0 := hW 0 (show 0 < 3 by decide)
        have r1 := hW 1 (show 1 < 3 by decide)
        have r2 := hW 2 (show 2 < 3 by decide)
        clear hW
        simp only [fkL, List.getElem_cons_zero, List.getElem_cons_succ] at r0 r1 r2
        simp [results, Tryz.results71, go_sem, r0, r1, r2]
      · refine lt3 ?_
        simp [go_sem, hcw]
      · exact own_more (base := w.heap.size + 1 + 1 + 1) (own_setCells (by omega) _ _ _ HO1.out) (by omega)
      · exact below_setCells (by omega) _ _ _ _ HWB.out
end Go.Proofs.YtohfofecbdfkgaaGreatDoor
