/-
  AlertChain: the alerts of a board follow from each other; after a withdrawal nothing follows, and nothing is in force; and the chapter's examples hold: for every roll and notices. No condition beyond the row's own (the listed tables of the library, tied by the card).
-/
import Derived.Test.YtohfofecbdfkgaaDoorFm
import Derived.Test.YtohfofecbdfkgaaDoorCq
namespace Go.Proofs.YtohfofecbdfkgaaDoor
open Go.RowKit Go.ChangeShapes Go.WideShapes Go.ChangeAt Al

def ChRel (w : World) (b : Nat) (ks : List (Int × Int)) (q : Int) (n : Nat) (i : Value) (wr : World) : Prop :=
  ∃ (k : Nat) (ns : List Ntc) (S : Nat → Prop), k ≤ n ∧ i = .int .i64 k ∧ Hid (Bd wr S b ks q ns) ∧ Hid (∀ i, S i → w.heap.size + 1 ≤ i ∧ i < wr.heap.size) ∧ Hid (Chained ns) ∧ Hid (Below w.heap.size w wr)
theorem map_len {L : List Ia} {l : List Alr} (h : L.map (·.a) = l) : L.length = l.length := by rw [← h, List.length_map]
theorem map_at {L : List Ia} {l : List Alr} (h : L.map (·.a) = l) {k : Nat} (hk : k < L.length) : ∃ hk' : k < l.length, L[k].a = l[k] := by
  subst h
  exact ⟨by simpa using hk, by simp⟩

set_option maxRecDepth 100000 in
set_option maxHeartbeats 16000000 in
theorem lchain_ (ks : List (Int × Int)) (q : Int) (K : Option Addr) (kc : Nat) (L : List It) (N : Option Addr) (nc : Nat) (w : World) (hr0 : Rin w ks K kc) (hL : Sl w w.heap.size 10 N L.length nc (itCells L)) (hI : ∀ x ∈ L, NIn w x.n x.A x.c x.S x.sc) (hlen : L.length ≤ 1152921504606846976) (hr : Rdy w) :
    Calls Tryd.prog 7 #[rollV ks K kc q, .slice N L.length nc] w fun e w' => e = .returned (.bool true) ∧ Below w.heap.size w w' := by
  have HR0 := Lib.hid hr0
  have HL := Lib.hid hL
  have HI := Lib.hid hI
  have HR := Lib.hid hr
  clear hr0 hL hI hr
  by_cases ho : rollOk ks q = true
  · have HO := Lib.hid ho
    clear ho
    go_enter Tryd.func7, Tryd.ntmps7
    go_wp2_with fail
    refine (newBoard_t ks q K kc _ (Rin.below HR0.out (by (repeat (first | exact Below.refl _ _ | assumption | refine below_drewN ?_ _ | refine Below.drew ?_ | refine Below.setCell ?_ (by first | omega | (simp; done) | (simp; omega)) _ | refine Below.alloc ?_ (by first | omega | (simp; done) | (simp; omega)) _)))) HO.out).mono ?_
    rintro e w1 ⟨b, rfl, hbg, hBd, hb⟩
    have Hw1 := Lib.hid ((show Below w.heap.size w _ from (by repeat (first | exact Below.refl _ _ | assumption | refine below_drewN ?_ _ | refine Below.drew ?_ | refine Below.setCell ?_ (by first | omega | (simp; done) | (simp; omega)) _ | refine Below.alloc ?_ (by first | omega | (simp; done) | (simp; omega)) _))).trans (hb.mono (by simp)))
    have hz1 := hb.size
    simp at hz1 hbg
    have HBD := Lib.hid (hBd.cut.mono (S' := fun i => w.heap.size + 1 ≤ i ∧ i < w1.heap.size) (fun i hi => by simpa using hi))
    clear hb hBd
    go_wp2_with fail
    go_loopw [7] (fun i wr => ChRel w b ks q L.length i wr) (fun i _ => L.length - (intOf i).toNat)
    case atStart => exact ⟨0, [], _, Nat.zero_le _, rfl, HBD, Lib.hid (fun i hi => hi), Lib.hid Chained.nil, Hw1⟩
    case round =>
      obtain ⟨k, ns, S, hk, rfl, HB, HS, HC, HW⟩ := hrel
      have hsz := HW.out.size
      by_cases hlt : k < L.length
      · obtain ⟨nb, off, rfl, hnb, y0, y1, y2, y3, y4, y5, y6, y7, y8, y9⟩ := (HL.out.below HW.out).it_at hlt
        have i0' : (0 : Int) ≤ (k : Int) := by omega
        have i1' : (k : Int) < (L.length : Int) := by omega
        have hb2 : nb < wr.heap.size := by omega
        have HN := Lib.hid (HI.out L[k] (List.getElem_mem hlt))
        obtain ⟨x, hx⟩ : ∃ x, x = L[k] := ⟨_, rfl⟩
        rw [← hx] at y0 y1 y2 y3 y4 y5 y6 y7 y8 y9 HN
        clear hx
        obtain ⟨h, hh⟩ : ∃ h, hist ns x.n.a.ev.data.toList = h := ⟨_, rfl⟩
        have HH := Lib.hid hh
        have HCH : Hid (Chn h) := by rw [← hh]; exact HC.out _
        have hfew : h.length ≤ 256 := by rw [← hh]; exact Nat.le_trans (hist_few _ _) HB.out.few
        obtain ⟨pe, hpe⟩ : ∃ v, postE ks q ns x.n = v := ⟨_, rfl⟩
        obtain ⟨ns2, hns2⟩ : ∃ v, postN ks q ns x.n = v := ⟨_, rfl⟩
        obtain ⟨h2, hh2⟩ : ∃ v, hist ns2 x.n.a.ev.data.toList = v := ⟨_, rfl⟩
        have HPE := Lib.hid hpe
        have HNS := Lib.hid hns2
        have HH2 := Lib.hid hh2
        have HC2 : Hid (Chained ns2) := by rw [← hns2]; exact HC.out.post x.n
        have HCH2 : Hid (Chn h2) := by rw [← hh2]; exact HC2.out _
        have HST : Hid (h2 = if pe = 0 then h ++ [x.n.a] else h) := by
          show _ = _
          rw [← hh2, ← hns2, hist_post, hpe, hh]
        clear hh hpe hns2 hh2
        go_wp2_with fail
        refine (History_ S b ks q ns x.n.a.ev _ h HH.out HCH.out (HB.out.below (by (repeat (first | exact Below.refl _ _ | assumption | refine below_drewN ?_ _ | refine Below.drew ?_ | refine Below.setCell ?_ (by first | omega | (simp; done) | (simp; omega)) _ | refine Below.alloc ?_ (by first | omega | (simp; done) | (simp; omega)) _))))).mono ?_
        rintro e w2 ⟨M1, P1, pc1, rfl, hM1, hA1, hb⟩
        have HM1 := Lib.hid hM1
        have HA1 := Lib.hid hA1
        have hm1 : M1.length ≤ 256 := by rw [map_len hM1]; exact hfew
        have W2 : Hid (Below w.heap.size w w2) := HW.out.trans (hb.mono hsz)
        have HB2 := Lib.hid (HB.out.below hb)
        have hz2 : wr.heap.size ≤ w2.heap.size := hb.size
        have hbl := HB2.out.lt
        obtain ⟨hcw2, hfw2⟩ := bcell hb
        clear hb hA1 hM1
        go_wp2_with fail
        refine (PostS S (w.heap.size + 1) b ks q ns x.n x.A x.c x.S x.sc pe ns2 _ HPE.out HNS.out (fun i hi => (HS.out i hi).1) (HB2.out.below (by (repeat (first | exact Below.refl _ _ | assumption | refine below_drewN ?_ _ | refine Below.drew ?_ | refine Below.setCell ?_ (by first | omega | (simp; done) | (simp; omega)) _ | refine Below.alloc ?_ (by first | omega | (simp; done) | (simp; omega)) _)))) ((HN.out.below W2.out).below (by (repeat (first | exact Below.refl _ _ | assumption | refine below_drewN ?_ _ | refine Below.drew ?_ | refine Below.setCell ?_ (by first | omega | (simp; done) | (simp; omega)) _ | refine Below.alloc ?_ (by first | omega | (simp; done) | (simp; omega)) _)))) ((HR.out.below W2.out).below (by (repeat (first | exact Below.refl _ _ | assumption | refine below_drewN ?_ _ | refine Below.drew ?_ | refine Below.setCell ?_ (by first | omega | (simp; done) | (simp; omega)) _ | refine Below.alloc ?_ (by first | omega | (simp; done) | (simp; omega)) _)))) (slr_lo HN.out.al.sl ((HN.out.below W2.out).below (by (repeat (first | exact Below.refl _ _ | assumption | refine below_drewN ?_ _ | refine Below.drew ?_ | refine Below.setCell ?_ (by first | omega | (simp; done) | (simp; omega)) _ | refine Below.alloc ?_ (by first | omega | (simp; done) | (simp; omega)) _)))).al.sl (by omega))).mono ?_
        rintro e w3 ⟨rfl, hB3, hk3⟩
        have W3 : Hid (Below w.heap.size w w3) := W2.out.trans (hk3.below (by omega) (fun i hi => by have := (HS.out i hi).1; omega))
        have HA13 := Lib.hid (HA1.out.keep hk3 (fun i hi f => by have := (HS.out i f).2; omega))
        have hz3 : w2.heap.size ≤ w3.heap.size := hk3.size
        have HB3 := Lib.hid hB3
        have HS3 : Hid (∀ i, ((S i ∨ w2.heap.size ≤ i) ∧ i < w3.heap.size) → w.heap.size + 1 ≤ i ∧ i < w3.heap.size) := fun i hi => ⟨by
          rcases hi.1 with h1 | h1
          · exact (HS.out i h1).1
          · omega, hi.2⟩
        obtain ⟨S3, hS3⟩ : ∃ S3 : Nat → Prop, S3 = fun i => (S i ∨ w2.heap.size ≤ i) ∧ i < w3.heap.size := ⟨_, rfl⟩
        have HB3' : Hid (Bd w3 S3 b ks q ns2) := by rw [hS3]; exact hB3
        have HS3' : Hid (∀ i, S3 i → w.heap.size + 1 ≤ i ∧ i < w3.heap.size) := by rw [hS3]; exact HS3.out
        clear hk3 hB3 HB3 HS3 hS3 HA1 HB2 hcw2 hfw2 y0 y1 y2 y3 y4 y5 y6 y7 y8 y9
        go_wp2_with fail
        refine (History_ S3 b ks q ns2 x.n.a.ev _ h2 HH2.out HCH2.out (HB3'.out.below (by (repeat (first | exact Below.refl _ _ | assumption | refine below_drewN ?_ _ | refine Below.drew ?_ | refine Below.setCell ?_ (by first | omega | (simp; done) | (simp; omega)) _ | refine Below.alloc ?_ (by first | omega | (simp; done) | (simp; omega)) _))))).mono ?_
        rintro e w4 ⟨M2, P2, pc2, rfl, hM2, hA2, hb⟩
        have HM2 := Lib.hid hM2
        have HA2 := Lib.hid hA2
        have W4 : Hid (Below w.heap.size w w4) := W3.out.trans (hb.mono W3.out.size)
        have HB4 := Lib.hid (HB3'.out.below hb)
        have HA14 := Lib.hid (HA13.out.below hb)
        have hz4 : w3.heap.size ≤ w4.heap.size := hb.size
        have hcap := hA2.cap
        clear hb hA2 hM2
        by_cases hp0 : pe = 0
        · as_aux_lemma =>
            subst hp0
            have HST' : Hid (h2 = h ++ [x.n.a]) := by have := HST.out; rw [if_pos rfl] at this; exact this
            have hml : M2.length = M1.length + 1 := by rw [map_len HM2.out, map_len HM1.out, HST'.out, List.length_append]; rfl
            have t1 : ((M2.length : Int) == (M1.length : Int) + 1) = true := by simp [hml]
            have t2 : decide (M2.length < M1.length) = false := by simp [hml]
            have t3 : M1.length ≤ M2.length := by omega
            have t4 : M1.length ≤ pc2 := by omega
            have HEQ : Hid (M1.map (·.a) = (M2.take M1.length).map (·.a)) := by
              show _ = _
              rw [List.map_take, HM1.out, HM2.out, HST'.out, map_len HM1.out, List.take_append, List.take_of_length_le (Nat.le_refl _)]
              simp
            clear hml
            go_wp2_with fail
            refine (sameAlerts_ M1 (M2.take M1.length) P1 pc1 P2 pc2 M1.length M1.length _ rfl (by rw [List.length_take, Nat.min_eq_left t3]) ((HA14.out.below (by (repeat (first | exact Below.refl _ _ | assumption | refine below_drewN ?_ _ | refine Below.drew ?_ | refine Below.setCell ?_ (by first | omega | (simp; done) | (simp; omega)) _ | refine Below.alloc ?_ (by first | omega | (simp; done) | (simp; omega)) _)))).sl) ((HA2.out.below (by (repeat (first | exact Below.refl _ _ | assumption | refine below_drewN ?_ _ | refine Below.drew ?_ | refine Below.setCell ?_ (by first | omega | (simp; done) | (simp; omega)) _ | refine Below.alloc ?_ (by first | omega | (simp; done) | (simp; omega)) _)))).slTake M1.length t3) (fun z hz => (HA14.out.below (by (repeat (first | exact Below.refl _ _ | assumption | refine below_drewN ?_ _ | refine Below.drew ?_ | refine Below.setCell ?_ (by first | omega | (simp; done) | (simp; omega)) _ | refine Below.alloc ?_ (by first | omega | (simp; done) | (simp; omega)) _)))).al hz) (fun z hz => (HA2.out.below (by (repeat (first | exact Below.refl _ _ | assumption | refine below_drewN ?_ _ | refine Below.drew ?_ | refine Below.setCell ?_ (by first | omega | (simp; done) | (simp; omega)) _ | refine Below.alloc ?_ (by first | omega | (simp; done) | (simp; omega)) _)))).al (List.mem_of_mem_take hz)) HEQ.out).mono ?_
            rintro e w5 ⟨rfl, hb⟩
            have HA5 := Lib.hid (HA2.out.below hb)
            have HB5 := Lib.hid (HB4.out.below hb)
            have W5 : Hid (Below w.heap.size w w5) := W4.out.trans (hb.mono W4.out.size)
            have hz5 : w4.heap.size ≤ w5.heap.size := hb.size
            clear hb t1 t2 t4 HEQ
            go_wp2_with fail
            have hml2 : M2.length ≤ 257 := by
              rw [map_len HM2.out, HST.out]
              split
              · simp; omega
              · omega
            clear t3
            go_loopw [12] (fun i wz => ∃ j : Nat, j ≤ M2.length ∧ i = .int .i64 j ∧ Hid (Below w5.heap.size w5 wz)) (fun i _ => M2.length - (intOf i).toNat)
            case atStart => exact ⟨0, Nat.zero_le _, rfl, Lib.hid (Below.refl _ _)⟩
            case round =>
              obtain ⟨j, hj, rfl, HZ⟩ := hrel
              have hzz := HZ.out.size
              have HA6 := Lib.hid (HA5.out.below HZ.out)
              have W6 : Hid (Below w.heap.size w wr) := W5.out.trans (HZ.out.mono W5.out.size)
              by_cases hjl : j < M2.length
              · obtain ⟨pb, po, rfl, hpb, v0, v1, v2, v3, v4, v5, v6, v7, v8⟩ := HA6.out.sl.al_at hjl
                have j0 : (0 : Int) ≤ (j : Int) := by omega
                have j1 : (j : Int) < (M2.length : Int) := by omega
                obtain ⟨hjl', hje⟩ := map_at HM2.out hjl
                have hver : M2[j].a.ver = (j : Int) + 1 := by rw [hje]; exact HCH2.out.ver j hjl'
                rw [hver] at v1
                clear hver hje
                by_cases hl : j + 1 < M2.length
                · have hwd : M2[j].a.wd = false := by
                    obtain ⟨a1, a2⟩ := map_at HM2.out hjl
                    rw [a2]
                    exact HCH2.out.wd j (by rw [← map_len HM2.out]; exact hl)
                  rw [hwd] at v7
                  clear hwd
                  have l1 : (j : Int) + 1 < (M2.length : Int) := by omega
                  have l2 : decide ((j : Int) + 1 < (M2.length : Int)) = true := by simp; omega
                  by_cases hj0 : j = 0
                  · as_aux_lemma =>
                      subst hj0
                      go_wp2_with fail
                      go_roundw
                      case rel => exact ⟨1, by omega, by go_num, HZ⟩
                      case measure => simp [intOf]; omega
                  · as_aux_lemma =>
                      obtain ⟨i, hi⟩ : ∃ i, j = i + 1 := ⟨j - 1, by omega⟩
                      have hil : i < M2.length := by omega
                      have hq : (j : Int) - 1 = (i : Int) := by omega
                      have i0 : (0 : Int) ≤ (i : Int) := by omega
                      have i1 : (i : Int) < (M2.length : Int) := by omega
                      obtain ⟨pb', po', hpe', _, z0, z1, z2, z3, z4, z5, z6, z7, z8⟩ := HA6.out.sl.al_at hil
                      cases hpe'
                      have HAi := Lib.hid (HA6.out.al (List.getElem_mem hil))
                      have HOi := Lib.hid (HA6.out.ok _ (List.getElem_mem hil))
                      have hbe : Hid (M2[j].a.before = digA M2[i].a) := by
                        obtain ⟨a1, a2⟩ := map_at HM2.out hjl
                        obtain ⟨a3, a4⟩ := map_at HM2.out hil
                        subst hi
                        show _ = _
                        rw [a2, a4]
                        exact HCH2.out.bef i a1
                      have htm : Hid (M2[i].a.tm ≤ M2[j].a.tm) := by
                        obtain ⟨a1, a2⟩ := map_at HM2.out hjl
                        obtain ⟨a3, a4⟩ := map_at HM2.out hil
                        subst hi
                        show _ ≤ _
                        rw [a2, a4]
                        exact HCH2.out.tm i a1
                      have hjb : (j == 0) = false := by simp [hj0]
                      have HI1 := Lib.hid hi
                      obtain ⟨y, hy⟩ : ∃ y, y = M2[i] := ⟨_, rfl⟩
                      obtain ⟨u, hu⟩ : ∃ u, u = M2[j] := ⟨_, rfl⟩
                      rw [← hy] at z0 z1 z2 z3 z4 z5 z6 z7 z8 HAi HOi hbe htm
                      rw [← hu] at v0 v2 v3 v4 v5 v6 v8 hbe htm
                      have hbf := hbe.out
                      rw [hbf] at v8
                      have tm1 : y.a.tm ≤ u.a.tm := htm.out
                      have tm2 : decide (u.a.tm < y.a.tm) = false := by simp; omega
                      clear hbf hy hu hi hbe htm
                      go_wp2_with fail
                      refine (Digest_t y.a y.A y.c _ HOi.out (HAi.out.below (by (repeat (first | exact Below.refl _ _ | assumption | refine below_drewN ?_ _ | refine Below.drew ?_ | refine Below.setCell ?_ (by first | omega | (simp; done) | (simp; omega)) _ | refine Below.alloc ?_ (by first | omega | (simp; done) | (simp; omega)) _)))) ((HR.out.below W6.out).below (by (repeat (first | exact Below.refl _ _ | assumption | refine below_drewN ?_ _ | refine Below.drew ?_ | refine Below.setCell ?_ (by first | omega | (simp; done) | (simp; omega)) _ | refine Below.alloc ?_ (by first | omega | (simp; done) | (simp; omega)) _))))).mono ?_
                      rintro e w7 ⟨rfl, hb⟩
                      have HZ7 : Hid (Below w5.heap.size w5 w7) := HZ.out.trans (hb.mono hzz)
                      obtain ⟨hcw7, hfw7⟩ := bcell hb
                      have hz7 : wr.heap.size ≤ w7.heap.size := hb.size
                      have hpb7 : pb < w7.heap.size := by omega
                      clear hb
                      go_wp2_with fail
                      refine wp_region_bw2 (by kernel_rfl) (by kernel_rfl) (fun hbwc => ?_)
                      repeat (go_big_quiet_step (fail))
                      refine wpQuiet_nil ?_
                      clear hbwc
                      intro w8 hb
                      have HZ8 : Hid (Below w5.heap.size w5 w8) := HZ7.out.trans (((show Below w7.heap.size w7 _ from by (repeat (first | exact Below.refl _ _ | assumption | refine below_drewN ?_ _ | refine Below.drew ?_ | refine Below.setCell ?_ (by first | omega | (simp; done) | (simp; omega)) _ | refine Below.alloc ?_ (by first | omega | (simp; done) | (simp; omega)) _))).trans (hb.mono (by first | omega | (simp; done) | (simp; omega)))).mono HZ7.out.size)
                      clear hb
                      go_wp2_with fail
                      go_roundw
                      case rel => exact ⟨j + 1, by omega, by go_num, HZ8⟩
                      case measure => simp [intOf]; omega
                · have l1 : ¬ (j : Int) + 1 < (M2.length : Int) := by omega
                  have l2 : decide ((j : Int) + 1 < (M2.length : Int)) = false := by simp; omega
                  have l3 : (M2.length : Int) ≤ (j : Int) + 1 := by omega
                  by_cases hj0 : j = 0
                  · as_aux_lemma =>
                      subst hj0
                      go_wp2_with fail
                      go_roundw
                      case rel => exact ⟨1, by omega, by go_num, HZ⟩
                      case measure => simp [intOf]; omega
                  · as_aux_lemma =>
                      obtain ⟨i, hi⟩ : ∃ i, j = i + 1 := ⟨j - 1, by omega⟩
                      have hil : i < M2.length := by omega
                      have hq : (j : Int) - 1 = (i : Int) := by omega
                      have i0 : (0 : Int) ≤ (i : Int) := by omega
                      have i1 : (i : Int) < (M2.length : Int) := by omega
                      obtain ⟨pb', po', hpe', _, z0, z1, z2, z3, z4, z5, z6, z7, z8⟩ := HA6.out.sl.al_at hil
                      cases hpe'
                      have HAi := Lib.hid (HA6.out.al (List.getElem_mem hil))
                      have HOi := Lib.hid (HA6.out.ok _ (List.getElem_mem hil))
                      have hbe : Hid (M2[j].a.before = digA M2[i].a) := by
                        obtain ⟨a1, a2⟩ := map_at HM2.out hjl
                        obtain ⟨a3, a4⟩ := map_at HM2.out hil
                        subst hi
                        show _ = _
                        rw [a2, a4]
                        exact HCH2.out.bef i a1
                      have htm : Hid (M2[i].a.tm ≤ M2[j].a.tm) := by
                        obtain ⟨a1, a2⟩ := map_at HM2.out hjl
                        obtain ⟨a3, a4⟩ := map_at HM2.out hil
                        subst hi
                        show _ ≤ _
                        rw [a2, a4]
                        exact HCH2.out.tm i a1
                      have hjb : (j == 0) = false := by simp [hj0]
                      have HI1 := Lib.hid hi
                      obtain ⟨y, hy⟩ : ∃ y, y = M2[i] := ⟨_, rfl⟩
                      obtain ⟨u, hu⟩ : ∃ u, u = M2[j] := ⟨_, rfl⟩
                      rw [← hy] at z0 z1 z2 z3 z4 z5 z6 z7 z8 HAi HOi hbe htm
                      rw [← hu] at v0 v2 v3 v4 v5 v6 v8 hbe htm
                      have hbf := hbe.out
                      rw [hbf] at v8
                      have tm1 : y.a.tm ≤ u.a.tm := htm.out
                      have tm2 : decide (u.a.tm < y.a.tm) = false := by simp; omega
                      clear hbf hy hu hi hbe htm
                      go_wp2_with fail
                      refine (Digest_t y.a y.A y.c _ HOi.out (HAi.out.below (by (repeat (first | exact Below.refl _ _ | assumption | refine below_drewN ?_ _ | refine Below.drew ?_ | refine Below.setCell ?_ (by first | omega | (simp; done) | (simp; omega)) _ | refine Below.alloc ?_ (by first | omega | (simp; done) | (simp; omega)) _)))) ((HR.out.below W6.out).below (by (repeat (first | exact Below.refl _ _ | assumption | refine below_drewN ?_ _ | refine Below.drew ?_ | refine Below.setCell ?_ (by first | omega | (simp; done) | (simp; omega)) _ | refine Below.alloc ?_ (by first | omega | (simp; done) | (simp; omega)) _))))).mono ?_
                      rintro e w7 ⟨rfl, hb⟩
                      have HZ7 : Hid (Below w5.heap.size w5 w7) := HZ.out.trans (hb.mono hzz)
                      obtain ⟨hcw7, hfw7⟩ := bcell hb
                      have hz7 : wr.heap.size ≤ w7.heap.size := hb.size
                      have hpb7 : pb < w7.heap.size := by omega
                      clear hb
                      go_wp2_with fail
                      refine wp_region_bw2 (by kernel_rfl) (by kernel_rfl) (fun hbwc => ?_)
                      repeat (go_big_quiet_step (fail))
                      refine wpQuiet_nil ?_
                      clear hbwc
                      intro w8 hb
                      have HZ8 : Hid (Below w5.heap.size w5 w8) := HZ7.out.trans (((show Below w7.heap.size w7 _ from by (repeat (first | exact Below.refl _ _ | assumption | refine below_drewN ?_ _ | refine Below.drew ?_ | refine Below.setCell ?_ (by first | omega | (simp; done) | (simp; omega)) _ | refine Below.alloc ?_ (by first | omega | (simp; done) | (simp; omega)) _))).trans (hb.mono (by first | omega | (simp; done) | (simp; omega)))).mono HZ7.out.size)
                      clear hb
                      go_wp2_with fail
                      go_roundw
                      case rel => exact ⟨j + 1, by omega, by go_num, HZ8⟩
                      case measure => simp [intOf]; omega
              · obtain rfl : j = M2.length := by omega
                have HB6 := Lib.hid (HB5.out.below HZ.out)
                by_cases hn0 : M2.length = 0
                · as_aux_lemma =>
                    obtain rfl : M2 = [] := List.eq_nil_of_length_eq_zero hn0
                    have HF : Hid (forceR ns2 x.n.a.ev.data.toList = (Al.zero, 4)) := force_none (by rw [HH2.out, ← HM2.out]; rfl)
                    go_wp2_with fail
                    refine (Force_ S3 b ks q ns2 x.n.a.ev _ Al.zero 4 HF.out HN.out.al.ev (HB6.out.below (by (repeat (first | exact Below.refl _ _ | assumption | refine below_drewN ?_ _ | refine Below.drew ?_ | refine Below.setCell ?_ (by first | omega | (simp; done) | (simp; omega)) _ | refine Below.alloc ?_ (by first | omega | (simp; done) | (simp; omega)) _))))).mono ?_
                    rintro e w7 ⟨A7, c7, rfl, ho7, hb⟩
                    obtain ⟨hcw7, hfw7⟩ := bcell hb
                    have HZ7 : Hid (Below w5.heap.size w5 w7) := HZ.out.trans (hb.mono hzz)
                    have hz7 : wr.heap.size ≤ w7.heap.size := hb.size
                    have hz9 : w7.heap.size < w7.heap.size + 1 := by omega
                    clear hb
                    go_wp2_with fail
                    refine wp_region_bw2 (by kernel_rfl) (by kernel_rfl) (fun hbwc => ?_)
                    repeat (go_big_quiet_step (fail))
                    refine wpQuiet_nil ?_
                    clear hbwc
                    intro w8 hb
                    have HZ8 : Hid (Below w5.heap.size w5 w8) := HZ7.out.trans (((show Below w7.heap.size w7 _ from by (repeat (first | exact Below.refl _ _ | assumption | refine below_drewN ?_ _ | refine Below.drew ?_ | refine Below.setCell ?_ (by first | omega | (simp; done) | (simp; omega)) _ | refine Below.alloc ?_ (by first | omega | (simp; done) | (simp; omega)) _))).trans (hb.mono (by first | omega | (simp; done) | (simp; omega)))).mono HZ7.out.size)
                    clear hb
                    go_wp2_with fail
                    go_roundw
                    case rel => exact ⟨k + 1, ns2, S3, by omega, by go_num, Lib.hid (HB5.out.below HZ8.out), Lib.hid (fun i hi => ⟨(HS3'.out i hi).1, by have := (HS3'.out i hi).2; have := HZ8.out.size; omega⟩), HC2, Lib.hid (W5.out.trans (HZ8.out.mono W5.out.size))⟩
                    case measure => simp [intOf]; omega
                · obtain ⟨i, hi⟩ : ∃ i, M2.length = i + 1 := ⟨M2.length - 1, by omega⟩
                  have hil : i < M2.length := by omega
                  have hq : (M2.length : Int) - 1 = (i : Int) := by omega
                  have i0 : (0 : Int) ≤ (i : Int) := by omega
                  have i1 : (i : Int) < (M2.length : Int) := by omega
                  have n0 : decide (0 < M2.length) = true := decide_eq_true (by omega)
                  have n1 : (M2.length == 0) = false := beq_eq_false_iff_ne.2 (by omega)
                  have n2 : ((M2.length : Int) == 0) = false := beq_eq_false_iff_ne.2 (by omega)
                  have n3 : 0 < M2.length := by omega
                  obtain ⟨pb, po, rfl, hpb, z0, z1, z2, z3, z4, z5, z6, z7, z8⟩ := HA6.out.sl.al_at hil
                  have HAi := Lib.hid (HA6.out.al (List.getElem_mem hil))
                  obtain ⟨hil', hie⟩ := map_at HM2.out hil
                  by_cases hw : M2[i].a.wd = true
                  · as_aux_lemma =>
                      have HF : Hid (forceR ns2 x.n.a.ev.data.toList = (Al.zero, 107)) := force_wd HH2.out (by rw [← map_len HM2.out]; exact hi) hil' (by rw [← hie]; exact hw)
                      rw [hw] at z7
                      clear hw hi hie hn0
                      go_wp2_with fail
                      refine (Force_ S3 b ks q ns2 x.n.a.ev _ Al.zero 107 HF.out HN.out.al.ev (HB6.out.below (by (repeat (first | exact Below.refl _ _ | assumption | refine below_drewN ?_ _ | refine Below.drew ?_ | refine Below.setCell ?_ (by first | omega | (simp; done) | (simp; omega)) _ | refine Below.alloc ?_ (by first | omega | (simp; done) | (simp; omega)) _))))).mono ?_
                      rintro e w7 ⟨A7, c7, rfl, ho7, hb⟩
                      obtain ⟨hcw7, hfw7⟩ := bcell hb
                      have HZ7 : Hid (Below w5.heap.size w5 w7) := HZ.out.trans (hb.mono hzz)
                      have hz7 : wr.heap.size ≤ w7.heap.size := hb.size
                      have hz9 : w7.heap.size < w7.heap.size + 1 := by omega
                      have hpb7 : pb < w7.heap.size := by omega
                      have hpb8 : pb < w7.heap.size + 1 := by omega
                      clear hb
                      go_wp2_with fail
                      refine wp_region_bw2 (by kernel_rfl) (by kernel_rfl) (fun hbwc => ?_)
                      repeat (go_big_quiet_step (fail))
                      refine wpQuiet_nil ?_
                      clear hbwc
                      intro w8 hb
                      have HZ8 : Hid (Below w5.heap.size w5 w8) := HZ7.out.trans (((show Below w7.heap.size w7 _ from by (repeat (first | exact Below.refl _ _ | assumption | refine below_drewN ?_ _ | refine Below.drew ?_ | refine Below.setCell ?_ (by first | omega | (simp; done) | (simp; omega)) _ | refine Below.alloc ?_ (by first | omega | (simp; done) | (simp; omega)) _))).trans (hb.mono (by first | omega | (simp; done) | (simp; omega)))).mono HZ7.out.size)
                      clear hb
                      go_wp2_with fail
                      go_roundw
                      case rel => exact ⟨k + 1, ns2, S3, by omega, by go_num, Lib.hid (HB5.out.below HZ8.out), Lib.hid (fun i hi => ⟨(HS3'.out i hi).1, by have := (HS3'.out i hi).2; have := HZ8.out.size; omega⟩), HC2, Lib.hid (W5.out.trans (HZ8.out.mono W5.out.size))⟩
                      case measure => simp [intOf]; omega
                  · as_aux_lemma =>
                      have hw' : M2[i].a.wd = false := by simpa using hw
                      have HF : Hid (forceR ns2 x.n.a.ev.data.toList = (M2[i].a, 0)) := by
                        have := force_ok HH2.out (by rw [← map_len HM2.out]; exact hi) hil' (by rw [← hie]; exact hw')
                        rw [← hie] at this
                        exact this
                      obtain ⟨y, hy⟩ : ∃ y, y = M2[i] := ⟨_, rfl⟩
                      rw [← hy] at z0 z1 z2 z3 z4 z5 z6 z7 z8 HAi HF hw'
                      clear hw hy hi hie hn0
                      obtain ⟨⟨ye, yv, yt, yn, yo, yg, ycs, yw, yb⟩, yA, yc⟩ := y
                      have hw2 : yw = false := hw'
                      clear hw'
                      subst hw2
                      have HV := Lib.hid (sameB_refl ⟨ye, yv, yt, yn, yo, yg, ycs, false, yb⟩)
                      go_wp2_with fail
                      refine (Force_ S3 b ks q ns2 x.n.a.ev _ ⟨ye, yv, yt, yn, yo, yg, ycs, false, yb⟩ 0 HF.out HN.out.al.ev (HB6.out.below (by (repeat (first | exact Below.refl _ _ | assumption | refine below_drewN ?_ _ | refine Below.drew ?_ | refine Below.setCell ?_ (by first | omega | (simp; done) | (simp; omega)) _ | refine Below.alloc ?_ (by first | omega | (simp; done) | (simp; omega)) _))))).mono ?_
                      rintro e w7 ⟨A7, c7, rfl, ho7, hb⟩
                      obtain ⟨hcw7, hfw7⟩ := bcell hb
                      have HZ7 : Hid (Below w5.heap.size w5 w7) := HZ.out.trans (hb.mono hzz)
                      have hz7 : wr.heap.size ≤ w7.heap.size := hb.size
                      have hz9 : w7.heap.size < w7.heap.size + 1 := by omega
                      have hpb7 : pb < w7.heap.size := by omega
                      have hpb8 : pb < w7.heap.size + 1 := by omega
                      have HA8 := Lib.hid (HAi.out.below hb)
                      have HA7 : Hid (AIn w7 ⟨ye, yv, yt, yn, yo, yg, ycs, false, yb⟩ A7 c7) := own_in HAi.out.ev ho7
                      clear hb
                      go_wp2_with fail
                      refine wp_region_bw2 (by kernel_rfl) (by kernel_rfl) (fun hbwc => ?_)
                      repeat (go_big_quiet_step ((go_at_call 16; exact bwCall (same_is ⟨ye, yv, yt, yn, yo, yg, ycs, false, yb⟩ ⟨ye, yv, yt, yn, yo, yg, ycs, false, yb⟩ A7 c7 yA yc _ (AIn.below (AIn.below HA7.out (by (repeat (first | exact Below.refl _ _ | assumption | refine below_drewN ?_ _ | refine Below.drew ?_ | refine Below.setCell ?_ (by first | omega | (simp; done) | (simp; omega)) _ | refine Below.alloc ?_ (by first | omega | (simp; done) | (simp; omega)) _)))) (BW.below _)) (AIn.below (AIn.below HA8.out (by (repeat (first | exact Below.refl _ _ | assumption | refine below_drewN ?_ _ | refine Below.drew ?_ | refine Below.setCell ?_ (by first | omega | (simp; done) | (simp; omega)) _ | refine Below.alloc ?_ (by first | omega | (simp; done) | (simp; omega)) _)))) (BW.below _)) true HV.out))))
                      refine wpQuiet_nil ?_
                      clear hbwc
                      intro w8 hb
                      have HZ8 : Hid (Below w5.heap.size w5 w8) := HZ7.out.trans (((show Below w7.heap.size w7 _ from by (repeat (first | exact Below.refl _ _ | assumption | refine below_drewN ?_ _ | refine Below.drew ?_ | refine Below.setCell ?_ (by first | omega | (simp; done) | (simp; omega)) _ | refine Below.alloc ?_ (by first | omega | (simp; done) | (simp; omega)) _))).trans (hb.mono (by first | omega | (simp; done) | (simp; omega)))).mono HZ7.out.size)
                      clear hb
                      go_wp2_with fail
                      go_roundw
                      case rel => exact ⟨k + 1, ns2, S3, by omega, by go_num, Lib.hid (HB5.out.below HZ8.out), Lib.hid (fun i hi => ⟨(HS3'.out i hi).1, by have := (HS3'.out i hi).2; have := HZ8.out.size; omega⟩), HC2, Lib.hid (W5.out.trans (HZ8.out.mono W5.out.size))⟩
                      case measure => simp [intOf]; omega
        · as_aux_lemma =>
            have HST' : Hid (h2 = h) := by have := HST.out; rw [if_neg hp0] at this; exact this
            have hml : M2.length = M1.length := by rw [map_len HM2.out, map_len HM1.out, HST'.out]
            have p1 : (pe == 0) = false := by simpa using hp0
            have p2 : (pe != 0) = true := by simpa using hp0
            have t1 : ((M2.length : Int) == (M1.length : Int) + 1) = false := by simp [hml]; omega
            have t2 : decide (M2.length < M1.length) = false := by simp [hml]
            have t3 : M1.length ≤ M2.length := by omega
            have t4 : M1.length ≤ pc2 := by omega
            have HEQ0 : Hid (M1.map (·.a) = M2.map (·.a)) := by show _ = _; rw [HM1.out, HM2.out, HST'.out]
            have HEQ : Hid (M1.map (·.a) = (M2.take M1.length).map (·.a)) := by
              show _ = _
              rw [List.take_of_length_le (by omega)]
              exact HEQ0.out
            clear hml hp0
            go_wp2_with fail
            refine (sameAlerts_ M1 M2 P1 pc1 P2 pc2 M1.length M2.length _ rfl rfl ((HA14.out.below (by (repeat (first | exact Below.refl _ _ | assumption | refine below_drewN ?_ _ | refine Below.drew ?_ | refine Below.setCell ?_ (by first | omega | (simp; done) | (simp; omega)) _ | refine Below.alloc ?_ (by first | omega | (simp; done) | (simp; omega)) _)))).sl) ((HA2.out.below (by (repeat (first | exact Below.refl _ _ | assumption | refine below_drewN ?_ _ | refine Below.drew ?_ | refine Below.setCell ?_ (by first | omega | (simp; done) | (simp; omega)) _ | refine Below.alloc ?_ (by first | omega | (simp; done) | (simp; omega)) _)))).sl) (fun z hz => (HA14.out.below (by (repeat (first | exact Below.refl _ _ | assumption | refine below_drewN ?_ _ | refine Below.drew ?_ | refine Below.setCell ?_ (by first | omega | (simp; done) | (simp; omega)) _ | refine Below.alloc ?_ (by first | omega | (simp; done) | (simp; omega)) _)))).al hz) (fun z hz => (HA2.out.below (by (repeat (first | exact Below.refl _ _ | assumption | refine below_drewN ?_ _ | refine Below.drew ?_ | refine Below.setCell ?_ (by first | omega | (simp; done) | (simp; omega)) _ | refine Below.alloc ?_ (by first | omega | (simp; done) | (simp; omega)) _)))).al hz) HEQ0.out).mono ?_
            rintro e w45 ⟨rfl, hb⟩
            have HA145 := Lib.hid (HA14.out.below hb)
            have HA25 := Lib.hid (HA2.out.below hb)
            have HB45 := Lib.hid (HB4.out.below hb)
            have W45 : Hid (Below w.heap.size w w45) := W4.out.trans (hb.mono W4.out.size)
            have hz45 : w4.heap.size ≤ w45.heap.size := hb.size
            clear hb
            go_wp2_with fail
            refine (sameAlerts_ M1 (M2.take M1.length) P1 pc1 P2 pc2 M1.length M1.length _ rfl (by rw [List.length_take, Nat.min_eq_left t3]) ((HA145.out.below (by (repeat (first | exact Below.refl _ _ | assumption | refine below_drewN ?_ _ | refine Below.drew ?_ | refine Below.setCell ?_ (by first | omega | (simp; done) | (simp; omega)) _ | refine Below.alloc ?_ (by first | omega | (simp; done) | (simp; omega)) _)))).sl) ((HA25.out.below (by (repeat (first | exact Below.refl _ _ | assumption | refine below_drewN ?_ _ | refine Below.drew ?_ | refine Below.setCell ?_ (by first | omega | (simp; done) | (simp; omega)) _ | refine Below.alloc ?_ (by first | omega | (simp; done) | (simp; omega)) _)))).slTake M1.length t3) (fun z hz => (HA145.out.below (by (repeat (first | exact Below.refl _ _ | assumption | refine below_drewN ?_ _ | refine Below.drew ?_ | refine Below.setCell ?_ (by first | omega | (simp; done) | (simp; omega)) _ | refine Below.alloc ?_ (by first | omega | (simp; done) | (simp; omega)) _)))).al hz) (fun z hz => (HA25.out.below (by (repeat (first | exact Below.refl _ _ | assumption | refine below_drewN ?_ _ | refine Below.drew ?_ | refine Below.setCell ?_ (by first | omega | (simp; done) | (simp; omega)) _ | refine Below.alloc ?_ (by first | omega | (simp; done) | (simp; omega)) _)))).al (List.mem_of_mem_take hz)) HEQ.out).mono ?_
            rintro e w5 ⟨rfl, hb⟩
            have HA5 := Lib.hid (HA25.out.below hb)
            have HB5 := Lib.hid (HB45.out.below hb)
            have W5 : Hid (Below w.heap.size w w5) := W45.out.trans (hb.mono W45.out.size)
            have hz5 : w45.heap.size ≤ w5.heap.size := hb.size
            clear hb t1 t2 t4 HEQ
            go_wp2_with fail
            have hml2 : M2.length ≤ 257 := by
              rw [map_len HM2.out, HST.out]
              split
              · simp; omega
              · omega
            clear t3
            go_loopw [12] (fun i wz => ∃ j : Nat, j ≤ M2.length ∧ i = .int .i64 j ∧ Hid (Below w5.heap.size w5 wz)) (fun i _ => M2.length - (intOf i).toNat)
            case atStart => exact ⟨0, Nat.zero_le _, rfl, Lib.hid (Below.refl _ _)⟩
            case round =>
              obtain ⟨j, hj, rfl, HZ⟩ := hrel
              have hzz := HZ.out.size
              have HA6 := Lib.hid (HA5.out.below HZ.out)
              have W6 : Hid (Below w.heap.size w wr) := W5.out.trans (HZ.out.mono W5.out.size)
              by_cases hjl : j < M2.length
              · obtain ⟨pb, po, rfl, hpb, v0, v1, v2, v3, v4, v5, v6, v7, v8⟩ := HA6.out.sl.al_at hjl
                have j0 : (0 : Int) ≤ (j : Int) := by omega
                have j1 : (j : Int) < (M2.length : Int) := by omega
                obtain ⟨hjl', hje⟩ := map_at HM2.out hjl
                have hver : M2[j].a.ver = (j : Int) + 1 := by rw [hje]; exact HCH2.out.ver j hjl'
                rw [hver] at v1
                clear hver hje
                by_cases hl : j + 1 < M2.length
                · have hwd : M2[j].a.wd = false := by
                    obtain ⟨a1, a2⟩ := map_at HM2.out hjl
                    rw [a2]
                    exact HCH2.out.wd j (by rw [← map_len HM2.out]; exact hl)
                  rw [hwd] at v7
                  clear hwd
                  have l1 : (j : Int) + 1 < (M2.length : Int) := by omega
                  have l2 : decide ((j : Int) + 1 < (M2.length : Int)) = true := by simp; omega
                  by_cases hj0 : j = 0
                  · as_aux_lemma =>
                      subst hj0
                      go_wp2_with fail
                      go_roundw
                      case rel => exact ⟨1, by omega, by go_num, HZ⟩
                      case measure => simp [intOf]; omega
                  · as_aux_lemma =>
                      obtain ⟨i, hi⟩ : ∃ i, j = i + 1 := ⟨j - 1, by omega⟩
                      have hil : i < M2.length := by omega
                      have hq : (j : Int) - 1 = (i : Int) := by omega
                      have i0 : (0 : Int) ≤ (i : Int) := by omega
                      have i1 : (i : Int) < (M2.length : Int) := by omega
                      obtain ⟨pb', po', hpe', _, z0, z1, z2, z3, z4, z5, z6, z7, z8⟩ := HA6.out.sl.al_at hil
                      cases hpe'
                      have HAi := Lib.hid (HA6.out.al (List.getElem_mem hil))
                      have HOi := Lib.hid (HA6.out.ok _ (List.getElem_mem hil))
                      have hbe : Hid (M2[j].a.before = digA M2[i].a) := by
                        obtain ⟨a1, a2⟩ := map_at HM2.out hjl
                        obtain ⟨a3, a4⟩ := map_at HM2.out hil
                        subst hi
                        show _ = _
                        rw [a2, a4]
                        exact HCH2.out.bef i a1
                      have htm : Hid (M2[i].a.tm ≤ M2[j].a.tm) := by
                        obtain ⟨a1, a2⟩ := map_at HM2.out hjl
                        obtain ⟨a3, a4⟩ := map_at HM2.out hil
                        subst hi
                        show _ ≤ _
                        rw [a2, a4]
                        exact HCH2.out.tm i a1
                      have hjb : (j == 0) = false := by simp [hj0]
                      have HI1 := Lib.hid hi
                      obtain ⟨y, hy⟩ : ∃ y, y = M2[i] := ⟨_, rfl⟩
                      obtain ⟨u, hu⟩ : ∃ u, u = M2[j] := ⟨_, rfl⟩
                      rw [← hy] at z0 z1 z2 z3 z4 z5 z6 z7 z8 HAi HOi hbe htm
                      rw [← hu] at v0 v2 v3 v4 v5 v6 v8 hbe htm
                      have hbf := hbe.out
                      rw [hbf] at v8
                      have tm1 : y.a.tm ≤ u.a.tm := htm.out
                      have tm2 : decide (u.a.tm < y.a.tm) = false := by simp; omega
                      clear hbf hy hu hi hbe htm
                      go_wp2_with fail
                      refine (Digest_t y.a y.A y.c _ HOi.out (HAi.out.below (by (repeat (first | exact Below.refl _ _ | assumption | refine below_drewN ?_ _ | refine Below.drew ?_ | refine Below.setCell ?_ (by first | omega | (simp; done) | (simp; omega)) _ | refine Below.alloc ?_ (by first | omega | (simp; done) | (simp; omega)) _)))) ((HR.out.below W6.out).below (by (repeat (first | exact Below.refl _ _ | assumption | refine below_drewN ?_ _ | refine Below.drew ?_ | refine Below.setCell ?_ (by first | omega | (simp; done) | (simp; omega)) _ | refine Below.alloc ?_ (by first | omega | (simp; done) | (simp; omega)) _))))).mono ?_
                      rintro e w7 ⟨rfl, hb⟩
                      have HZ7 : Hid (Below w5.heap.size w5 w7) := HZ.out.trans (hb.mono hzz)
                      obtain ⟨hcw7, hfw7⟩ := bcell hb
                      have hz7 : wr.heap.size ≤ w7.heap.size := hb.size
                      have hpb7 : pb < w7.heap.size := by omega
                      clear hb
                      go_wp2_with fail
                      refine wp_region_bw2 (by kernel_rfl) (by kernel_rfl) (fun hbwc => ?_)
                      repeat (go_big_quiet_step (fail))
                      refine wpQuiet_nil ?_
                      clear hbwc
                      intro w8 hb
                      have HZ8 : Hid (Below w5.heap.size w5 w8) := HZ7.out.trans (((show Below w7.heap.size w7 _ from by (repeat (first | exact Below.refl _ _ | assumption | refine below_drewN ?_ _ | refine Below.drew ?_ | refine Below.setCell ?_ (by first | omega | (simp; done) | (simp; omega)) _ | refine Below.alloc ?_ (by first | omega | (simp; done) | (simp; omega)) _))).trans (hb.mono (by first | omega | (simp; done) | (simp; omega)))).mono HZ7.out.size)
                      clear hb
                      go_wp2_with fail
                      go_roundw
                      case rel => exact ⟨j + 1, by omega, by go_num, HZ8⟩
                      case measure => simp [intOf]; omega
                · have l1 : ¬ (j : Int) + 1 < (M2.length : Int) := by omega
                  have l2 : decide ((j : Int) + 1 < (M2.length : Int)) = false := by simp; omega
                  have l3 : (M2.length : Int) ≤ (j : Int) + 1 := by omega
                  by_cases hj0 : j = 0
                  · as_aux_lemma =>
                      subst hj0
                      go_wp2_with fail
                      go_roundw
                      case rel => exact ⟨1, by omega, by go_num, HZ⟩
                      case measure => simp [intOf]; omega
                  · as_aux_lemma =>
                      obtain ⟨i, hi⟩ : ∃ i, j = i + 1 := ⟨j - 1, by omega⟩
                      have hil : i < M2.length := by omega
                      have hq : (j : Int) - 1 = (i : Int) := by omega
                      have i0 : (0 : Int) ≤ (i : Int) := by omega
                      have i1 : (i : Int) < (M2.length : Int) := by omega
                      obtain ⟨pb', po', hpe', _, z0, z1, z2, z3, z4, z5, z6, z7, z8⟩ := HA6.out.sl.al_at hil
                      cases hpe'
                      have HAi := Lib.hid (HA6.out.al (List.getElem_mem hil))
                      have HOi := Lib.hid (HA6.out.ok _ (List.getElem_mem hil))
                      have hbe : Hid (M2[j].a.before = digA M2[i].a) := by
                        obtain ⟨a1, a2⟩ := map_at HM2.out hjl
                        obtain ⟨a3, a4⟩ := map_at HM2.out hil
                        subst hi
                        show _ = _
                        rw [a2, a4]
                        exact HCH2.out.bef i a1
                      have htm : Hid (M2[i].a.tm ≤ M2[j].a.tm) := by
                        obtain ⟨a1, a2⟩ := map_at HM2.out hjl
                        obtain ⟨a3, a4⟩ := map_at HM2.out hil
                        subst hi
                        show _ ≤ _
                        rw [a2, a4]
                        exact HCH2.out.tm i a1
                      have hjb : (j == 0) = false := by simp [hj0]
                      have HI1 := Lib.hid hi
                      obtain ⟨y, hy⟩ : ∃ y, y = M2[i] := ⟨_, rfl⟩
                      obtain ⟨u, hu⟩ : ∃ u, u = M2[j] := ⟨_, rfl⟩
                      rw [← hy] at z0 z1 z2 z3 z4 z5 z6 z7 z8 HAi HOi hbe htm
                      rw [← hu] at v0 v2 v3 v4 v5 v6 v8 hbe htm
                      have hbf := hbe.out
                      rw [hbf] at v8
                      have tm1 : y.a.tm ≤ u.a.tm := htm.out
                      have tm2 : decide (u.a.tm < y.a.tm) = false := by simp; omega
                      clear hbf hy hu hi hbe htm
                      go_wp2_with fail
                      refine (Digest_t y.a y.A y.c _ HOi.out (HAi.out.below (by (repeat (first | exact Below.refl _ _ | assumption | refine below_drewN ?_ _ | refine Below.drew ?_ | refine Below.setCell ?_ (by first | omega | (simp; done) | (simp; omega)) _ | refine Below.alloc ?_ (by first | omega | (simp; done) | (simp; omega)) _)))) ((HR.out.below W6.out).below (by (repeat (first | exact Below.refl _ _ | assumption | refine below_drewN ?_ _ | refine Below.drew ?_ | refine Below.setCell ?_ (by first | omega | (simp; done) | (simp; omega)) _ | refine Below.alloc ?_ (by first | omega | (simp; done) | (simp; omega)) _))))).mono ?_
                      rintro e w7 ⟨rfl, hb⟩
                      have HZ7 : Hid (Below w5.heap.size w5 w7) := HZ.out.trans (hb.mono hzz)
                      obtain ⟨hcw7, hfw7⟩ := bcell hb
                      have hz7 : wr.heap.size ≤ w7.heap.size := hb.size
                      have hpb7 : pb < w7.heap.size := by omega
                      clear hb
                      go_wp2_with fail
                      refine wp_region_bw2 (by kernel_rfl) (by kernel_rfl) (fun hbwc => ?_)
                      repeat (go_big_quiet_step (fail))
                      refine wpQuiet_nil ?_
                      clear hbwc
                      intro w8 hb
                      have HZ8 : Hid (Below w5.heap.size w5 w8) := HZ7.out.trans (((show Below w7.heap.size w7 _ from by (repeat (first | exact Below.refl _ _ | assumption | refine below_drewN ?_ _ | refine Below.drew ?_ | refine Below.setCell ?_ (by first | omega | (simp; done) | (simp; omega)) _ | refine Below.alloc ?_ (by first | omega | (simp; done) | (simp; omega)) _))).trans (hb.mono (by first | omega | (simp; done) | (simp; omega)))).mono HZ7.out.size)
                      clear hb
                      go_wp2_with fail
                      go_roundw
                      case rel => exact ⟨j + 1, by omega, by go_num, HZ8⟩
                      case measure => simp [intOf]; omega
              · obtain rfl : j = M2.length := by omega
                have HB6 := Lib.hid (HB5.out.below HZ.out)
                by_cases hn0 : M2.length = 0
                · as_aux_lemma =>
                    obtain rfl : M2 = [] := List.eq_nil_of_length_eq_zero hn0
                    have HF : Hid (forceR ns2 x.n.a.ev.data.toList = (Al.zero, 4)) := force_none (by rw [HH2.out, ← HM2.out]; rfl)
                    go_wp2_with fail
                    refine (Force_ S3 b ks q ns2 x.n.a.ev _ Al.zero 4 HF.out HN.out.al.ev (HB6.out.below (by (repeat (first | exact Below.refl _ _ | assumption | refine below_drewN ?_ _ | refine Below.drew ?_ | refine Below.setCell ?_ (by first | omega | (simp; done) | (simp; omega)) _ | refine Below.alloc ?_ (by first | omega | (simp; done) | (simp; omega)) _))))).mono ?_
                    rintro e w7 ⟨A7, c7, rfl, ho7, hb⟩
                    obtain ⟨hcw7, hfw7⟩ := bcell hb
                    have HZ7 : Hid (Below w5.heap.size w5 w7) := HZ.out.trans (hb.mono hzz)
                    have hz7 : wr.heap.size ≤ w7.heap.size := hb.size
                    have hz9 : w7.heap.size < w7.heap.size + 1 := by omega
                    clear hb
                    go_wp2_with fail
                    refine wp_region_bw2 (by kernel_rfl) (by kernel_rfl) (fun hbwc => ?_)
                    repeat (go_big_quiet_step (fail))
                    refine wpQuiet_nil ?_
                    clear hbwc
                    intro w8 hb
                    have HZ8 : Hid (Below w5.heap.size w5 w8) := HZ7.out.trans (((show Below w7.heap.size w7 _ from by (repeat (first | exact Below.refl _ _ | assumption | refine below_drewN ?_ _ | refine Below.drew ?_ | refine Below.setCell ?_ (by first | omega | (simp; done) | (simp; omega)) _ | refine Below.alloc ?_ (by first | omega | (simp; done) | (simp; omega)) _))).trans (hb.mono (by first | omega | (simp; done) | (simp; omega)))).mono HZ7.out.size)
                    clear hb
                    go_wp2_with fail
                    go_roundw
                    case rel => exact ⟨k + 1, ns2, S3, by omega, by go_num, Lib.hid (HB5.out.below HZ8.out), Lib.hid (fun i hi => ⟨(HS3'.out i hi).1, by have := (HS3'.out i hi).2; have := HZ8.out.size; omega⟩), HC2, Lib.hid (W5.out.trans (HZ8.out.mono W5.out.size))⟩
                    case measure => simp [intOf]; omega
                · obtain ⟨i, hi⟩ : ∃ i, M2.length = i + 1 := ⟨M2.length - 1, by omega⟩
                  have hil : i < M2.length := by omega
                  have hq : (M2.length : Int) - 1 = (i : Int) := by omega
                  have i0 : (0 : Int) ≤ (i : Int) := by omega
                  have i1 : (i : Int) < (M2.length : Int) := by omega
                  have n0 : decide (0 < M2.length) = true := decide_eq_true (by omega)
                  have n1 : (M2.length == 0) = false := beq_eq_false_iff_ne.2 (by omega)
                  have n2 : ((M2.length : Int) == 0) = false := beq_eq_false_iff_ne.2 (by omega)
                  have n3 : 0 < M2.length := by omega
                  obtain ⟨pb, po, rfl, hpb, z0, z1, z2, z3, z4, z5, z6, z7, z8⟩ := HA6.out.sl.al_at hil
                  have HAi := Lib.hid (HA6.out.al (List.getElem_mem hil))
                  obtain ⟨hil', hie⟩ := map_at HM2.out hil
                  by_cases hw : M2[i].a.wd = true
                  · as_aux_lemma =>
                      have HF : Hid (forceR ns2 x.n.a.ev.data.toList = (Al.zero, 107)) := force_wd HH2.out (by rw [← map_len HM2.out]; exact hi) hil' (by rw [← hie]; exact hw)
                      rw [hw] at z7
                      clear hw hi hie hn0
                      go_wp2_with fail
                      refine (Force_ S3 b ks q ns2 x.n.a.ev _ Al.zero 107 HF.out HN.out.al.ev (HB6.out.below (by (repeat (first | exact Below.refl _ _ | assumption | refine below_drewN ?_ _ | refine Below.drew ?_ | refine Below.setCell ?_ (by first | omega | (simp; done) | (simp; omega)) _ | refine Below.alloc ?_ (by first | omega | (simp; done) | (simp; omega)) _))))).mono ?_
                      rintro e w7 ⟨A7, c7, rfl, ho7, hb⟩
                      obtain ⟨hcw7, hfw7⟩ := bcell hb
                      have HZ7 : Hid (Below w5.heap.size w5 w7) := HZ.out.trans (hb.mono hzz)
                      have hz7 : wr.heap.size ≤ w7.heap.size := hb.size
                      have hz9 : w7.heap.size < w7.heap.size + 1 := by omega
                      have hpb7 : pb < w7.heap.size := by omega
                      have hpb8 : pb < w7.heap.size + 1 := by omega
                      clear hb
                      go_wp2_with fail
                      refine wp_region_bw2 (by kernel_rfl) (by kernel_rfl) (fun hbwc => ?_)
                      repeat (go_big_quiet_step (fail))
                      refine wpQuiet_nil ?_
                      clear hbwc
                      intro w8 hb
                      have HZ8 : Hid (Below w5.heap.size w5 w8) := HZ7.out.trans (((show Below w7.heap.size w7 _ from by (repeat (first | exact Below.refl _ _ | assumption | refine below_drewN ?_ _ | refine Below.drew ?_ | refine Below.setCell ?_ (by first | omega | (simp; done) | (simp; omega)) _ | refine Below.alloc ?_ (by first | omega | (simp; done) | (simp; omega)) _))).trans (hb.mono (by first | omega | (simp; done) | (simp; omega)))).mono HZ7.out.size)
                      clear hb
                      go_wp2_with fail
                      go_roundw
                      case rel => exact ⟨k + 1, ns2, S3, by omega, by go_num, Lib.hid (HB5.out.below HZ8.out), Lib.hid (fun i hi => ⟨(HS3'.out i hi).1, by have := (HS3'.out i hi).2; have := HZ8.out.size; omega⟩), HC2, Lib.hid (W5.out.trans (HZ8.out.mono W5.out.size))⟩
                      case measure => simp [intOf]; omega
                  · as_aux_lemma =>
                      have hw' : M2[i].a.wd = false := by simpa using hw
                      have HF : Hid (forceR ns2 x.n.a.ev.data.toList = (M2[i].a, 0)) := by
                        have := force_ok HH2.out (by rw [← map_len HM2.out]; exact hi) hil' (by rw [← hie]; exact hw')
                        rw [← hie] at this
                        exact this
                      obtain ⟨y, hy⟩ : ∃ y, y = M2[i] := ⟨_, rfl⟩
                      rw [← hy] at z0 z1 z2 z3 z4 z5 z6 z7 z8 HAi HF hw'
                      clear hw hy hi hie hn0
                      obtain ⟨⟨ye, yv, yt, yn, yo, yg, ycs, yw, yb⟩, yA, yc⟩ := y
                      have hw2 : yw = false := hw'
                      clear hw'
                      subst hw2
                      have HV := Lib.hid (sameB_refl ⟨ye, yv, yt, yn, yo, yg, ycs, false, yb⟩)
                      go_wp2_with fail
                      refine (Force_ S3 b ks q ns2 x.n.a.ev _ ⟨ye, yv, yt, yn, yo, yg, ycs, false, yb⟩ 0 HF.out HN.out.al.ev (HB6.out.below (by (repeat (first | exact Below.refl _ _ | assumption | refine below_drewN ?_ _ | refine Below.drew ?_ | refine Below.setCell ?_ (by first | omega | (simp; done) | (simp; omega)) _ | refine Below.alloc ?_ (by first | omega | (simp; done) | (simp; omega)) _))))).mono ?_
                      rintro e w7 ⟨A7, c7, rfl, ho7, hb⟩
                      obtain ⟨hcw7, hfw7⟩ := bcell hb
                      have HZ7 : Hid (Below w5.heap.size w5 w7) := HZ.out.trans (hb.mono hzz)
                      have hz7 : wr.heap.size ≤ w7.heap.size := hb.size
                      have hz9 : w7.heap.size < w7.heap.size + 1 := by omega
                      have hpb7 : pb < w7.heap.size := by omega
                      have hpb8 : pb < w7.heap.size + 1 := by omega
                      have HA8 := Lib.hid (HAi.out.below hb)
                      have HA7 : Hid (AIn w7 ⟨ye, yv, yt, yn, yo, yg, ycs, false, yb⟩ A7 c7) := own_in HAi.out.ev ho7
                      clear hb
                      go_wp2_with fail
                      refine wp_region_bw2 (by kernel_rfl) (by kernel_rfl) (fun hbwc => ?_)
                      repeat (go_big_quiet_step ((go_at_call 16; exact bwCall (same_is ⟨ye, yv, yt, yn, yo, yg, ycs, false, yb⟩ ⟨ye, yv, yt, yn, yo, yg, ycs, false, yb⟩ A7 c7 yA yc _ (AIn.below (AIn.below HA7.out (by (repeat (first | exact Below.refl _ _ | assumption | refine below_drewN ?_ _ | refine Below.drew ?_ | refine Below.setCell ?_ (by first | omega | (simp; done) | (simp; omega)) _ | refine Below.alloc ?_ (by first | omega | (simp; done) | (simp; omega)) _)))) (BW.below _)) (AIn.below (AIn.below HA8.out (by (repeat (first | exact Below.refl _ _ | assumption | refine below_drewN ?_ _ | refine Below.drew ?_ | refine Below.setCell ?_ (by first | omega | (simp; done) | (simp; omega)) _ | refine Below.alloc ?_ (by first | omega | (simp; done) | (simp; omega)) _)))) (BW.below _)) true HV.out))))
                      refine wpQuiet_nil ?_
                      clear hbwc
                      intro w8 hb
                      have HZ8 : Hid (Below w5.heap.size w5 w8) := HZ7.out.trans (((show Below w7.heap.size w7 _ from by (repeat (first | exact Below.refl _ _ | assumption | refine below_drewN ?_ _ | refine Below.drew ?_ | refine Below.setCell ?_ (by first | omega | (simp; done) | (simp; omega)) _ | refine Below.alloc ?_ (by first | omega | (simp; done) | (simp; omega)) _))).trans (hb.mono (by first | omega | (simp; done) | (simp; omega)))).mono HZ7.out.size)
                      clear hb
                      go_wp2_with fail
                      go_roundw
                      case rel => exact ⟨k + 1, ns2, S3, by omega, by go_num, Lib.hid (HB5.out.below HZ8.out), Lib.hid (fun i hi => ⟨(HS3'.out i hi).1, by have := (HS3'.out i hi).2; have := HZ8.out.size; omega⟩), HC2, Lib.hid (W5.out.trans (HZ8.out.mono W5.out.size))⟩
                      case measure => simp [intOf]; omega
      · obtain rfl : k = L.length := by omega
        go_wp2_with fail
        refine (works_ _ (HR.out.below HW.out)).mono ?_
        rintro e w9 ⟨rfl, hb⟩
        have W9 : Hid (Below w.heap.size w w9) := HW.out.trans (hb.mono hsz)
        clear hb
        go_wp2_with fail
        go_ret
        exact ⟨rfl, W9.out⟩
  · have ho' : rollOk ks q = false := by simpa using ho
    have HO := Lib.hid ho'
    clear ho ho'
    go_enter Tryd.func7, Tryd.ntmps7
    go_wp2_with fail
    refine (newBoard_f ks q K kc _ (Rin.below HR0.out (by (repeat (first | exact Below.refl _ _ | assumption | refine below_drewN ?_ _ | refine Below.drew ?_ | refine Below.setCell ?_ (by first | omega | (simp; done) | (simp; omega)) _ | refine Below.alloc ?_ (by first | omega | (simp; done) | (simp; omega)) _)))) HO.out).mono ?_
    rintro e w1 ⟨rfl, hb⟩
    obtain ⟨hcw1, hfw1⟩ := bcell hb
    have Hw1 := Lib.hid ((show Below w.heap.size w _ from (by repeat (first | exact Below.refl _ _ | assumption | refine below_drewN ?_ _ | refine Below.drew ?_ | refine Below.setCell ?_ (by first | omega | (simp; done) | (simp; omega)) _ | refine Below.alloc ?_ (by first | omega | (simp; done) | (simp; omega)) _))).trans (hb.mono (by first | omega | (simp; done) | (simp; omega))))
    have hzw1 := hb.size
    try simp at hzw1
    clear hb
    go_wp2_with fail
    refine (works_ _ (HR.out.below (Hw1.out.trans (by (repeat (first | exact Below.refl _ _ | assumption | refine below_drewN ?_ _ | refine Below.drew ?_ | refine Below.setCell ?_ (by first | omega | (simp; done) | (simp; omega)) _ | refine Below.alloc ?_ (by first | omega | (simp; done) | (simp; omega)) _)))))).mono ?_
    rintro e w2 ⟨rfl, hb⟩
    obtain ⟨hcw2, hfw2⟩ := bcell hb
    have Hw2 := Lib.hid ((show Below w.heap.size w _ from (by repeat (first | exact Below.refl _ _ | exact (Hw1).out | refine below_drewN ?_ _ | refine Below.drew ?_ | refine Below.setCell ?_ (by first | omega | (simp; done) | (simp; omega)) _ | refine Below.alloc ?_ (by first | omega | (simp; done) | (simp; omega)) _))).trans (hb.mono (by first | omega | (simp; done) | (simp; omega))))
    have hzw2 := hb.size
    try simp at hzw2
    clear hb
    go_wp2_with fail
    go_ret
    exact ⟨rfl, Hw2.out⟩
end Go.Proofs.YtohfofecbdfkgaaDoor
