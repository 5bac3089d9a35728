/-
  The walk of Forks of the program.
-/
import Derived.Test.YtohfofecbdfkgaaGreatDoorU29
namespace Go.Proofs.YtohfofecbdfkgaaGreatDoor
open Go.RowKit Al
attribute [local go_sem ↓] Go.wp_at_zero Go.wp_at_succ

/-- A fork lies in a block while it is made; its signers in a row of their own. -/
structure ForkAt (w : World) (b : Nat) (m : ByteArray) (v : Int) (who : List Int) (A : Option Addr) (c : Nat) : Prop where
  c0 : w.cell? ⟨b, 0, none⟩ = some (.string m)
  c1 : w.cell? ⟨b, 1, none⟩ = some (.int .i64 v)
  c2 : w.cell? ⟨b, 2, none⟩ = some (.slice A who.length c)
  f2 : w.frozen? ⟨b, 2, none⟩ = false
  own : w.ownsRow (b + 1) 3 1 (.slice A who.length c) who.length (ints who)
  lt : b < w.heap.size
theorem ForkAt.keep {w w' : World} {b : Nat} {m : ByteArray} {v : Int} {who : List Int} {A : Option Addr} {c : Nat} (h : ForkAt w b m v who A c) {F : Nat → Prop} (k : Kp F w w') (hF : ∀ i, b ≤ i → i < w.heap.size → ¬ F i) : ForkAt w' b m v who A c :=
  have hb := hF b (Nat.le_refl _) h.lt
  ⟨(k.cell (p := ⟨b, 0, none⟩) h.lt hb).trans h.c0, (k.cell (p := ⟨b, 1, none⟩) h.lt hb).trans h.c1, (k.cell (p := ⟨b, 2, none⟩) h.lt hb).trans h.c2, (k.frozen (p := ⟨b, 2, none⟩) h.lt hb).trans h.f2,
    own_keep h.own k (fun i hi => by have := own_lt h.own hi; exact hF i (by omega) this.2), Nat.lt_of_lt_of_le h.lt k.size⟩
theorem ForkAt.below {w w' : World} {b : Nat} {m : ByteArray} {v : Int} {who : List Int} {A : Option Addr} {c : Nat} (h : ForkAt w b m v who A c) (hb : Below w.heap.size w w') : ForkAt w' b m v who A c :=
  h.keep (F := fun _ => False) (Kp.of_below hb) (fun _ _ _ e => e)
theorem ForkAt.made (w : World) (m : ByteArray) (v : Int) : ForkAt (w.alloc (.cells #[.string m, .int .i64 v, .slice none 0 0] 73)) w.heap.size m v [] none 0 := by
  refine ⟨?_, ?_, ?_, ?_, World.ownsRow_nil _ _ _ _, ?_⟩ <;> simp [go_sem]
theorem Below.grownN {w w' : World} (h : Below w.heap.size w w') : w.grownBy w' none := ⟨h.os, h.tape, h.output, h.size, fun i hi _ => h.block i hi⟩
def PgRel (w3 wo : World) (n0 : Nat) (l : List Frk) (g : Int → List Frk) (vs : List Int) (ow : Option Nat) (o i : Value) (wr : World) : Prop :=
  ∃ (j : Nat) (G : List FkC) (A : Option Addr) (c : Nat), j ≤ vs.length ∧ G.length ≤ n0 + j ∧ o = .slice A G.length c ∧ i = .int .i64 j ∧ FkRow wr w3.heap.size (l ++ (vs.take j).flatMap g) G A c ∧ Kp (fun i => ow = some i) wo wr ∧ ∀ i, (Value.slice A G.length c).ownBlock = some i → ow = some i ∨ wo.heap.size ≤ i
def LkRel (wx : World) (xb : Nat) (m : ByteArray) (v : Int) (S : List It) (nk : Nat) (i : Value) (wz : World) : Prop :=
  ∃ (s : Nat) (A : Option Addr) (c : Nat), s ≤ nk ∧ i = .int .i64 s ∧ ForkAt wz xb m v (forkWho S v s) A c ∧ Kp (fun i => i = xb) wx wz
def LcRel (w7 : World) (b r n2 : Nat) (D2 : DataW Value) (S : List It) (v s : Int) (mn : Value) (wz : World) : Prop :=
  ∃ (left : Lit → Bool) (cnt n : Nat), wz.ranges Tryz.prog 9 MapR b r n2 D2 left cnt ∧ mn = .int .i64 n ∧ n = ((textsV S v).filter fun t => !left (.string t) && decide (s ∈ sgs S v t)).length ∧ Kp (fun i => i = r) w7 wz
set_option maxRecDepth 100000 in
set_option maxHeartbeats 2000000 in
theorem forks_e (ks : List (Int × Int)) (q : Int) (K : Option Addr) (kc : Nat) (L : List It) (N : Option Addr) (nc : Nat) (v : Int) (w : World) (hv : manyE ks q L.length = v) (hv0 : ¬ v = 0) (hr : Rin w ks K kc) (hlen : L.length ≤ 1152921504606846976) :
    Calls Tryz.prog 25 #[rollV ks K kc q, .slice N L.length nc] w (OwnFk [] v w) := by
  have HR := Lib.hid hr
  have HV := Lib.hid hv
  have hv1 : (v != 0) = true := by simpa using hv0
  clear hr hv
  go_enter Tryz.func25, Tryz.ntmps25
  go_wp2_with fail
  refine (events_e ks q K kc L N nc v _ HV.out hv0 (HR.out.below (by (repeat (first | exact Below.refl _ _ | assumption | refine below_drewN ?_ _ | refine Below.drew ?_ | refine Below.setCell ?_ (by first | omega | (simp; done) | (simp; omega)) _ | refine Below.alloc ?_ (by first | omega | (simp; done) | (simp; omega)) _)))) hlen).mono ?_
  rintro e w1 ⟨_, he, hb⟩
  obtain rfl := he hv0
  have Hw1 : Hid (Below w.heap.size w w1) := (show Below w.heap.size w _ from by (repeat (first | exact Below.refl _ _ | assumption | refine below_drewN ?_ _ | refine Below.drew ?_ | refine Below.setCell ?_ (by first | omega | (simp; done) | (simp; omega)) _ | refine Below.alloc ?_ (by first | omega | (simp; done) | (simp; omega)) _))).trans (hb.mono (by simp))
  clear he hb
  go_wp2_with fail
  go_ret2
  exact ⟨[], none, 0, rfl, rfl, World.ownsRow_nil _ _ _ _, fun _ h => (nomatch h), Hw1.out⟩
set_option maxRecDepth 100000 in
set_option maxHeartbeats 16000000 in
theorem forks_t (ks : List (Int × Int)) (q : Int) (K : Option Addr) (kc : Nat) (L : List It) (N : Option Addr) (nc : Nat) (w : World) (hm : manyE ks q L.length = 0) (hr : Rin w ks K kc) (ht : Rdy w) (hL : Sl w w.heap.size 10 N L.length nc (itCells L)) (hI : ∀ x ∈ L, NIn w x.n x.A x.c x.S x.sc) :
    Calls Tryz.prog 25 #[rollV ks K kc q, .slice N L.length nc] w (OwnFk (forksS ks q L) 0 w) := by
  obtain ⟨i1, hi1, hy0, hy1, hy2⟩ := info_parts infoInt
  obtain ⟨i0, hi, hz0, hz1, hz2⟩ := info_parts infoFk
  obtain ⟨ho, hl64⟩ := manyE_zero hm
  obtain ⟨F, hF⟩ : ∃ F, validN ks q L = F := ⟨_, rfl⟩
  obtain ⟨E, hE⟩ : ∃ E, evW F = E := ⟨_, rfl⟩
  have hFm : ∀ x ∈ F, x ∈ L ∧ okA x.n.a = true ∧ x.n.sg.length ≤ 8 := fun x hx => by
    rw [← hF] at hx
    obtain ⟨h1, h2⟩ := List.mem_filter.1 hx
    have h3 := noticeE_zero (show noticeE ks q x.n = 0 by simpa using h2)
    exact ⟨h1, h3.1, Nat.le_trans h3.2 (rollOk_len ho)⟩
  have hFl : F.length ≤ 64 := by rw [← hF]; exact Nat.le_trans (List.length_filter_le _ _) hl64
  have hEl : E.length ≤ 64 := by rw [← hE]; exact Nat.le_trans (evW_len F) hFl
  have hRS : forksS ks q L = E.flatMap fun m => forksE ks.length (F.filter (ofEv m)) m := by unfold forksS; rw [hF, hE]
  have hk0 := rollOk_some ho
  have hk8 := rollOk_len ho
  have HEV : Hid (∀ m ∈ E, m.size ≤ maxLen) := fun m hm => by
    rw [← hE] at hm
    obtain ⟨x, hx, e⟩ := ((evW_spec F).2 m).1 hm
    rw [← e]
    exact okA_ev (hFm x hx).2.1
  have HR := Lib.hid hr
  have HT := Lib.hid ht
  have HL := Lib.hid hL
  have HI := Lib.hid hI
  have HM := Lib.hid hm
  have HF := Lib.hid hF
  have HE := Lib.hid hE
  have HFM := Lib.hid hFm
  rw [hRS]
  clear hr ht hL hI hm hF hE hFm hRS ho
  go_enter Tryz.func25, Tryz.ntmps25
  go_wp2_with fail
  refine (events_is ks q K kc L N nc F _ HF.out HM.out (HR.out.below (by (repeat (first | exact Below.refl _ _ | assumption | refine below_drewN ?_ _ | refine Below.drew ?_ | refine Below.setCell ?_ (by first | omega | (simp; done) | (simp; omega)) _ | refine Below.alloc ?_ (by first | omega | (simp; done) | (simp; omega)) _)))) (HT.out.below (by (repeat (first | exact Below.refl _ _ | assumption | refine below_drewN ?_ _ | refine Below.drew ?_ | refine Below.setCell ?_ (by first | omega | (simp; done) | (simp; omega)) _ | refine Below.alloc ?_ (by first | omega | (simp; done) | (simp; omega)) _)))) ((HL.out.below (by (repeat (first | exact Below.refl _ _ | assumption | refine below_drewN ?_ _ | refine Below.drew ?_ | refine Below.setCell ?_ (by first | omega | (simp; done) | (simp; omega)) _ | refine Below.alloc ?_ (by first | omega | (simp; done) | (simp; omega)) _)))).more (by simp)) (fun x hx => (HI.out x hx).below (by (repeat (first | exact Below.refl _ _ | assumption | refine below_drewN ?_ _ | refine Below.drew ?_ | refine Below.setCell ?_ (by first | omega | (simp; done) | (simp; omega)) _ | refine Below.alloc ?_ (by first | omega | (simp; done) | (simp; omega)) _)))) (by omega)).mono ?_
  rintro e w1 ⟨mb, B, f, rfl, hG, hmb, hb⟩
  have Hx1 : Hid (Below (w.heap.size + 1) (w.alloc (.cells #[.slice K ks.length kc, .int .i64 q] 24)) w1) := hb.mono (by simp)
  have Hw1 : Hid (Below w.heap.size w w1) := (show Below w.heap.size w _ from by (repeat (first | exact Below.refl _ _ | assumption | refine below_drewN ?_ _ | refine Below.drew ?_ | refine Below.setCell ?_ (by first | omega | (simp; done) | (simp; omega)) _ | refine Below.alloc ?_ (by first | omega | (simp; done) | (simp; omega)) _))).trans (hb.mono (by simp))
  have z1 := hb.size
  simp at z1
  have HG := Lib.hid hG
  clear hG hb
  go_wp2_with (first
    | (go_at_call 43; refine (Tryz.mapsKeys_string (some mb) w1).mono ?_; rintro e w2 ⟨rfl, rfl⟩)
    | (go_at_call 42; refine (names_ B mb F f E w1 HE.out HG.out (by omega)).mono ?_; rintro e w2 ⟨Q, qc, rfl, hrow2, hb⟩; have HQ := Lib.hid (Sl.of_own hrow2); have Hk : Hid (Below w1.heap.size w1 w2) := ((Below.refl _ w1).alloc (Nat.le_refl _) _).trans (hb.mono (Nat.le_succ _)); have z2 := hb.size; (try simp at z2); clear hb hrow2))
  have k0 : w2.cell? ⟨w.heap.size, 0, none⟩ = some (.slice K ks.length kc) := ((Hx1.out.trans (Hk.out.mono z1)).cell (p := ⟨w.heap.size, 0, none⟩) (Nat.lt_succ_self _)).trans (by simp [go_sem])
  have HK0 := Lib.hid k0
  clear k0
  go_loopw [8, 32] (fun o i wr => RfRel w2 E (fun m => forksE ks.length (F.filter (ofEv m)) m) o i wr) (fun _ i _ => E.length - (Go.RowKit.intOf i).toNat)
  case atStart => exact ⟨0, [], none, 0, Nat.zero_le _, Nat.zero_le _, rfl, rfl, FkRow.nil _ _, Below.refl _ _⟩
  case round =>
    obtain ⟨k, G, A, c, hk, hGl, rfl, rfl, hrow, hB⟩ := hrel
    have hsz := hB.size
    have HB := Lib.hid hB
    have HRW := Lib.hid hrow
    clear hB hrow
    by_cases hlt : k < E.length
    · obtain ⟨eb, eo, rfl, heb, z0⟩ := (HQ.out.below HB.out).str_at hlt
      have j0 : (0 : Int) ≤ (k : Int) := by omega
      have j1 : (k : Int) < (E.length : Int) := by omega
      have heb2 : eb < wr.heap.size := by omega
      have hev := HEV.out E[k] (List.getElem_mem hlt)
      have HX : Hid (∀ l, (versTo 1000).flatMap (forkAt ks.length (F.filter (ofEv E[k])) E[k]) = l → (E.take (k + 1)).flatMap (fun m => forksE ks.length (F.filter (ofEv m)) m) = (E.take k).flatMap (fun m => forksE ks.length (F.filter (ofEv m)) m) ++ l) := by
        intro l hl
        rw [List.take_succ_eq_append_getElem hlt, List.flatMap_append, ← hl]
        simp [forksE]
      obtain ⟨m, hmm⟩ : ∃ m, m = E[k] := ⟨_, rfl⟩
      rw [← hmm] at z0 HX hev
      have HZ3 : Hid (w2.cell? ⟨eb, eo + k, none⟩ = some (.string m)) := (HB.out.cell (p := ⟨eb, eo + k, none⟩) heb).symm.trans z0
      clear hmm
      have HGr : Hid (Grp wr B mb F f) := HG.out.below (Hk.out.trans (HB.out.mono (by omega)))
      obtain ⟨P, pc, hcur, hrowP⟩ := HGr.out.cur m.data.toList
      have hlk := HGr.out.map.look hev
      rw [hcur] at hlk
      rw [grp_ev] at hlk hrowP
      have hGm : ∀ x ∈ F.filter (ofEv m), x ∈ F := fun x hx => (List.mem_filter.1 hx).1
      have hSl : (F.filter (ofEv m)).length ≤ 64 := Nat.le_trans (List.length_filter_le _ _) hFl
      obtain ⟨S, hS⟩ : ∃ S, F.filter (ofEv m) = S := ⟨_, rfl⟩
      rw [hS] at hlk hrowP hGm hSl HX
      have HP := Lib.hid (Sl.of_own hrowP)
      have HGM : Hid (∀ x ∈ S, NIn wr x.n x.A x.c x.S x.sc ∧ okA x.n.a = true ∧ x.n.sg.length ≤ 8) := fun x hx => ⟨(HI.out x (HFM.out x (hGm x hx)).1).below (Hw1.out.trans (Below.mono (Hk.out.trans (HB.out.mono (by omega))) (by omega))), (HFM.out x (hGm x hx)).2⟩
      have HTr : Hid (Rdy wr) := HT.out.below (Hw1.out.trans (Below.mono (Hk.out.trans (HB.out.mono (by omega))) (by omega)))
      obtain ⟨l0, hl0⟩ : ∃ l0, (E.take k).flatMap (fun m => forksE ks.length (F.filter (ofEv m)) m) = l0 := ⟨_, rfl⟩
      rw [hl0] at HX HRW
      have HL0 := Lib.hid hl0
      clear hcur hrowP hS hGm hl0
      have HLT : Hid (∀ i, (Value.slice A G.length c).ownBlock = some i → w2.heap.size ≤ i ∧ i < wr.heap.size) := fun i hi => own_lt HRW.out.own hi
      go_wp2_with (first
        | (go_at_call 46; refine (versions_ S P pc wr HP.out (fun x hx => (HGM.out x hx).1) (fun x hx => (HGM.out x hx).2.1) (fun x hx => (HGM.out x hx).2.2) hSl HTr.out).mono ?_; rintro e w5 ⟨mb2, n2, fv, gv, tg2, rfl, hV, hmb2, hn2, hb5⟩; have HB5 := Lib.hid hb5; have z5 := hb5.size; have HV := Lib.hid hV; clear hb5 hV)
        | (go_at_call 68; refine (Tryz.mapsKeys_int (some mb2) w5).mono ?_; rintro e w6 ⟨rfl, rfl⟩)
        | (go_at_call 67; refine (vkeys_ _ mb2 n2 S fv gv tg2 w5 HV.out (by omega)).mono ?_; rintro e w6 ⟨R, rc, rfl, hrow6, hb⟩; have HR6 : Hid (SlR w6 (fun i => w5.heap.size ≤ i) 1 R (versF fv).length rc (ints (versF fv))) := SlR.of_own hrow6 (fun i h1 _ => by omega); have H56 : Hid (Below w5.heap.size w5 w6) := ((Below.refl _ w5).alloc (Nat.le_refl _) _).trans (hb.mono (Nat.le_succ _)); have z6 := hb.size; (try simp at z6); clear hb hrow6))
      have HV6 := Lib.hid (HV.out.below H56.out)
      have HB6 := Lib.hid (HB5.out.trans (H56.out.mono z5))
      have HRa := Lib.hid (HRW.out.below HB6.out)
      have HBk := Lib.hid (HB.out.trans (HB6.out.mono hsz))
      have HVF : Hid ((versF fv).flatMap (forkAt ks.length S m) = (versTo 1000).flatMap (forkAt ks.length S m)) := versF_flat fun v hv => by
        unfold forkAt
        rw [if_neg]
        intro hp
        have h1 := (fork_texts (fun x hx => (HGM.out x hx).2.1) v).2 hp
        rw [HV.out.non v hv] at h1
        exact absurd h1 (by simp)
      have hvl := versF_len fv
      have HKV : Hid (∀ v ∈ versF fv, ∃ b, fv v = some (.map (some b)) ∧ tg2 b = some (v, none) ∧ mb2 + 1 ≤ b ∧ MapS w6 b n2 (textsV S v).length (gv v)) := fun v hv => by
        obtain ⟨u, hu⟩ := Option.isSome_iff_exists.1 (HV.out.keys.1 hv)
        obtain ⟨b, rfl, h1, h2, h3⟩ := HV6.out.inn v u hu
        exact ⟨b, hu, h1, h2, h3⟩
      obtain ⟨vs, hvs⟩ : ∃ vs, vs = versF fv := ⟨_, rfl⟩
      rw [← hvs] at HR6 HVF hvl HKV
      rw [← hvs]
      have hm6 := HV6.out.le
      obtain ⟨xo, hxo⟩ : ∃ xo, xo = wr.heap.size := ⟨_, rfl⟩
      have hxo1 : wr.heap.size ≤ xo := by omega
      have hxo2 : xo ≤ wr.heap.size := by omega
      clear hvs hlk HP hxo
      go_loopw [8, 44] (fun o i wz => PgRel w2 w6 (1000 * k) l0 (forkAt ks.length S m) vs (Value.slice A G.length c).ownBlock o i wz) (fun _ i _ => vs.length - (Go.RowKit.intOf i).toNat)
      case atStart => exact ⟨0, G, A, c, Nat.zero_le _, by omega, rfl, rfl, by simpa using HRa.out, Kp.refl _ _, fun i hi => .inl hi⟩
      case round =>
        obtain ⟨j, G', A', c', hj, hGl', rfl, rfl, hrow', hKp, hat⟩ := hrel
        have HRj := Lib.hid hrow'
        have HKj := Lib.hid hKp
        have HAT := Lib.hid hat
        have HBj := Lib.hid (HBk.out.trans (hKp.below (by omega) (fun i hi => (HLT.out i hi).1)))
        have zj := hKp.size
        have HVj := Lib.hid (HV6.out.map)
        have k0j : wr.cell? ⟨w.heap.size, 0, none⟩ = some (.slice K ks.length kc) := (HBj.out.cell (p := ⟨w.heap.size, 0, none⟩) (by show w.heap.size < _; omega)).trans HK0.out
        have z0j : wr.cell? ⟨eb, eo + k, none⟩ = some (.string m) := (HBj.out.cell (p := ⟨eb, eo + k, none⟩) heb).trans HZ3.out
        have lw : w.heap.size < wr.heap.size := by omega
        clear hrow' hKp hat
        by_cases hjl : j < vs.length
        · obtain ⟨rb, ro, rfl, hrb, y0⟩ := ((HR6.out.keep HKj.out (fun i hi e => by have := (HLT.out i e).2; omega)).sl).int_at hjl hjl
          have m0 : (0 : Int) ≤ (j : Int) := by omega
          have m1 : (j : Int) < (vs.length : Int) := by omega
          have hrb2 : rb < wr.heap.size := hrb
          obtain ⟨b, hfb, htb, hbB, hbM⟩ := HKV.out vs[j] (List.getElem_mem hjl)
          have HNX : Hid (∀ l, forkAt ks.length S m vs[j] = l → l0 ++ (vs.take (j + 1)).flatMap (forkAt ks.length S m) = (l0 ++ (vs.take j).flatMap (forkAt ks.length S m)) ++ l) := by
            intro l hl
            rw [List.take_succ_eq_append_getElem hjl, List.flatMap_append, ← List.append_assoc, ← hl]
            simp
          obtain ⟨v, hv⟩ : ∃ v, v = vs[j] := ⟨_, rfl⟩
          rw [← hv] at y0 hfb htb hbM HNX
          have hrng := HV6.out.rng v _ hfb
          clear hv
          have hwf : (Lit.int .i64 v).wf = true := wf_ver (by omega) (by omega)
          obtain ⟨cq, hmq⟩ := HVj.out
          have hmj := hmq.keep HKj.out (fun e => by have := (HLT.out mb2 e).2; omega)
          have hlv := hmj.look keyLawI Tryz.underlying90 (zeroM wr) (Maps.keyOf_int_mk Tryz.underlying3 hwf)
          rw [hfb] at hlv
          simp only [Option.getD_some] at hlv
          have hbj := hbM.keep HKj.out (fun e => by have := (HLT.out b e).2; omega)
          have HBJ := Lib.hid hbj
          obtain ⟨D2, hD1, hD2, _⟩ := hbj
          have HMJ := Lib.hid hmj
          clear hmq hmj hbM
          cases hb2 : decide ((Maps.size D2 : Int) < 2) with
          | true =>
            have hb' := of_decide_eq_true hb2
            have HNO := Lib.hid (HNX.out [] (by
              unfold forkAt
              rw [if_neg]
              intro hp
              have h1 := (fork_texts (fun x hx => (HGM.out x hx).2.1) v).2 hp
              omega))
            go_wp2_with (first
              | (at_len; refine wpList_len_own _ rfl _ 92 rfl 9 39 Tryz.underlying92 MapR b n2 D2 rfl hD1 ?_)
              | go_in)
            go_roundw
            case rel => exact ⟨j + 1, G', A', c', by omega, by omega, rfl, by go_num, by rw [HNO.out, List.append_nil]; exact HRj.out, HKj.out, HAT.out⟩
            case measure => simp [Go.RowKit.intOf]; omega
          | false =>
            have hb' := of_decide_eq_false hb2
            have HROW : Hid (∀ t u, gv v t = some u → t ∈ textsV S v ∧ ∃ A c, u = .slice A (sgs S v t).length c ∧ SlR wr (fun i => mb2 + 1 ≤ i ∧ i < w6.heap.size) 1 A (sgs S v t).length c (ints (sgs S v t))) := fun t u hu => by
              obtain ⟨h1, ⟨Z, zc, rfl⟩, h3, _⟩ := HV6.out.row v t u hu
              exact ⟨h1, Z, zc, rfl, (SlR.of_own h3 (R := fun i => mb2 + 1 ≤ i ∧ i < w6.heap.size) (fun i h4 h5 => ⟨h4, h5⟩)).keep HKj.out (fun i hi e => by have := (HLT.out i e).2; omega)⟩
            have HDOM : Hid (∀ t ∈ textsV S v, (gv v t).isSome = true) := fun t ht => by
              cases hg : gv v t with
              | some u => rfl
              | none => exact absurd ht (HV6.out.dom v t hg)
            have HTW : Hid (2 ≤ (textsV S v).length) := by show _ ≤ _; omega
            go_wp2_with (first
              | (at_len; refine wpList_len_own _ rfl _ 92 rfl 9 39 Tryz.underlying92 MapR b n2 D2 rfl hD1 ?_)
              | go_in)
            obtain ⟨xb, hxb⟩ : ∃ xb, xb = wr.heap.size := ⟨_, rfl⟩
            have HFM := Lib.hid (ForkAt.made wr m v)
            have HXB := Lib.hid hxb
            rw [← hxb] at HFM
            rw [← hxb]
            have hx1 : wr.heap.size ≤ xb := by omega
            have hx2 : xb ≤ wr.heap.size := by omega
            clear hxb hD1 hD2 hb' hb2
            go_loopw [59] (fun i wz => LkRel (wr.alloc (.cells #[.string m, .int .i64 v, .slice none 0 0] 73)) xb m v S ks.length i wz) (fun i _ => ks.length - (Go.RowKit.intOf i).toNat)
            case atStart => exact ⟨0, none, 0, Nat.zero_le _, rfl, HFM.out, Kp.refl _ _⟩
            case round =>
              obtain ⟨s, A3, c3, hs, rfl, hF3, hKp3⟩ := hrel
              have HF3 := Lib.hid hF3
              have HK3 := Lib.hid hKp3
              have z3 := hKp3.size
              simp at z3
              clear hF3 hKp3
              by_cases hsl : s < ks.length
              · have q1 : (s : Int) < (ks.length : Int) := by omega
                have hm3 := (HMJ.out.keep (F := fun _ => False) (Kp.of_below ((Below.refl _ _).alloc (Nat.le_refl _) _)) (fun e => e)).keep HK3.out (by omega)
                have hlv3 := hm3.look keyLawI Tryz.underlying90 (zeroM wr) (Maps.keyOf_int_mk Tryz.underlying3 hwf)
                rw [hfb] at hlv3
                simp only [Option.getD_some] at hlv3
                have hbl := HBJ.out.lt
                have hb3 := (HBJ.out.keep (F := fun _ => False) (Kp.of_below ((Below.refl _ _).alloc (Nat.le_refl _) _)) (fun e => e)).keep HK3.out (by omega)
                obtain ⟨D3, hE1, hE2, hE3⟩ := hb3
                have HE3 := Lib.hid hE3
                clear hm3 hE3
                go_wp2_with (first
                  | (at_range; refine wpList_range_own _ rfl _ 92 rfl 9 39 keyLaw Tryz.underlying92 MapR b n2 D3 rfl hE1 ?_; intro w7 hrg7 hg7 hs7)
                  | go_in)
                go_frame
                have K37 : Kp (fun _ => False) wr w7 := (Kp.refl _ _).grown hg7 (fun k hk => by cases hk)
                obtain ⟨r, hr⟩ : ∃ r, r = wr.heap.size := ⟨_, rfl⟩
                have hr1 : wr.heap.size ≤ r := by omega
                have hr2 : r ≤ wr.heap.size := by omega
                have hxr := HF3.out.lt
                rw [← hr] at hrg7 hxr
                rw [← hr]
                clear hr hg7 hlv3
                have HTX := Lib.hid (textsV_nodup S v)
                have htl := Nat.le_trans (textsV_len S v) hSl
                go_loopw [16, 18] (fun mn _ wz => LcRel w7 b r n2 D3 S v s mn wz) (fun _ _ wz => wz.rangeLeft b r)
                case atStart => exact ⟨_, _, 0, hrg7, rfl, (List.length_eq_zero_iff.2 (List.filter_eq_nil_iff.2 fun t ht => by rw [(HE3.out t).1, HDOM.out t ht]; simp)).symm, Kp.refl _ _⟩
                case round =>
                  obtain ⟨left, cnt, n, hrg, rfl, hn, hKp4⟩ := hrel
                  have HB34 := Lib.hid ((K37.trans hKp4 (fun i hi e => by omega)).below (Nat.le_refl _) (fun i f => f.elim))
                  have HK4 := Lib.hid hKp4
                  have z4 := hKp4.size
                  have hrm := hrg.lt
                  have hnl : n ≤ 64 := by rw [hn]; exact Nat.le_trans (List.length_filter_le _ _) htl
                  have HNN := Lib.hid hn
                  clear hKp4 hn
                  go_wp2_with (first
                    | (at_next; refine wpList_next_ranges _ rfl _ rfl 9 keyLaw MapR encStr (fun v : Value => v) (fun key kl h => by obtain ⟨x, hx, _⟩ := Maps.keyOf_str Tryz.underlying9 h; exact ⟨x, hx⟩) (fun v y _ => ⟨v, rfl⟩) b r n2 D3 left cnt rfl hrg ?_ ?_)
                    | go_in)
                  · intro hc0 hl0
                    have hct : n = ((textsV S v).filter fun t => decide ((s : Int) ∈ sgs S v t)).length := by
                      rw [HNN.out]
                      congr 1
                      refine List.filter_congr fun t _ => ?_
                      rw [hl0]
                      simp
                    have hF4 := HF3.out.below HB34.out
                    obtain ⟨d0, d1, d2, df, down, dl⟩ := hF4
                    have hwl := forkWho_len S v s
                    cases h2 : pairAny (twoV v s) S S.length with
                    | false =>
                      have hlt2 : ¬ 2 ≤ n := by rw [hct, two_texts (fun x hx => (HGM.out x hx).2.1), h2]; simp
                      have hn1 : ¬ (1 : Int) < (n : Int) := by omega
                      have HFF := Lib.hid (HF3.out.below HB34.out)
                      have HWE : Hid (forkWho S v (s + 1) = forkWho S v s) := by show _ = _; rw [forkWho_next, h2]; simp
                      clear hct h2 hl0 down
                      go_wp2_with fail
                      go_roundw
                      case rel => exact ⟨s + 1, A3, c3, by omega, by go_num, by rw [HWE.out]; exact HFF.out, HK3.out.then_below HB34.out⟩
                      case measure => simp [Go.RowKit.intOf]; omega
                    | true =>
                      have hlt2 : 2 ≤ n := by rw [hct, two_texts (fun x hx => (HGM.out x hx).2.1), h2]
                      have hn1 : (1 : Int) < (n : Int) := by omega
                      have HWE : Hid (forkWho S v (s + 1) = forkWho S v s ++ [(s : Int)]) := by show _ = _; rw [forkWho_next, h2]; simp
                      have HDN := Lib.hid down
                      obtain ⟨W, hW⟩ : ∃ W, W = forkWho S v s := ⟨_, rfl⟩
                      rw [← hW] at d2 HDN HWE hwl
                      clear hct h2 hl0 down hW
                      go_wp2_with (at_builtin; go_must (refine wpList_append_lies _ rfl _ _ 39 rfl (xb + 1) 3 i1 (.int .i64 0) 1 8 Tryz.underlying39 hi1 hy0 hy1 hy2 rfl (by decide) (.slice A3 W.length c3) W.length (ints W) rfl (own_below HDN.out (Nat.le_refl _) ((Below.refl _ _).alloc (Nat.le_refl _) _)) _ 1 1 [.int .i64 (s : Int)] rfl rfl (World.news_of_block (heap_alloc_new wr _)) (by intro u hu; rw [List.mem_singleton.1 hu]; rfl) (by decide) (by unfold maxLen; omega) (by omega) (by simp; omega) _ rfl ?_); intro g cap w9 hown9 hg9 hat9 hlt9; have z9 := hg9.size; (try simp at z9); have hfar : ∀ o, w9.cell? ⟨xb, o, none⟩ = (wr.alloc (.cells #[.int .i64 (s : Int)] 3)).cell? ⟨xb, o, none⟩ := fun o => hg9.cell_far ⟨xb, o, none⟩ (by simp; omega) (fun e => by have h9 := (own_lt HDN.out e.symm).1; simp at h9; omega); have e0 := (hfar 0).trans (show _ = some (.string m) by simp [go_sem, d0, dl]); have e1 := (hfar 1).trans (show _ = some (.int .i64 v) by simp [go_sem, d1, dl]); have e2 := (hfar 2).trans (show _ = some (.slice A3 W.length c3) by simp [go_sem, d2, dl]); have e3 : w9.frozen? ⟨xb, 2, none⟩ = false := (hg9.frozen_far ⟨xb, 2, none⟩ (by simp; omega) (fun e => by have h9 := (own_lt HDN.out e.symm).1; simp at h9; omega)).trans (by simp [go_sem, df, dl]); have l9 : xb < w9.heap.size := (by omega); have HG9 := Lib.hid hg9; have HO9 := Lib.hid hown9; clear hg9 hown9 hfar d0 d1 d2 df)
                      go_roundw
                      case rel =>
                        have h1 : (W ++ [(s : Int)]).length = W.length + 1 := by simp
                        refine ⟨s + 1, some ⟨g, 0, none⟩, cap, by omega, by go_num, ?_, ?_⟩
                        · rw [HWE.out]
                          refine ⟨?_, ?_, ?_, ?_, ?_, ?_⟩
                          · simp [go_sem, e0]
                          · simp [go_sem, e1]
                          · rw [h1]; simp [go_sem, e2]
                          · simp [go_sem, e3]
                          · rw [h1, show ints (W ++ [(s : Int)]) = ints W ++ [.int .i64 (s : Int)] by simp [ints]]
                            exact ownsRow_setCell_below HO9.out (by simp) _
                          · simp; omega
                        · exact ((((HK3.out.then_below HB34.out).then_below ((Below.refl _ _).alloc (Nat.le_refl _) _)).grown HG9.out (fun i hi => .inr (by have := (own_lt HDN.out hi).1; simp; omega)))).setCell (.inl rfl) _
                      case measure => simp [Go.RowKit.intOf]; omega
                  · intro t c kl y y2 w8 cnt8 hkey hlk hR hat hrg8 hlt8 hg8 hs8 hen
                    obtain ⟨t', et, rfl, htl8⟩ := Maps.keyOf_str Tryz.underlying9 hkey
                    obtain rfl : t = t' := encStr_inj et
                    obtain ⟨rfl, rfl⟩ : y = .held c ∧ y2 = [] := by
                      have h1 := Option.some.inj hR
                      injection h1 with e1 e2
                      exact ⟨e1.symm, e2.symm⟩
                    have hhas : Maps.has D3 (.string t) = true := by
                      cases hh : Maps.has D3 (.string t) with
                      | true => rfl
                      | false =>
                        have h1 := (hat (.held (.int .i64 0))).symm.trans (Maps.atKey_of_not_has hh _)
                        have h2 := (hat (.held (.int .i64 1))).symm.trans (Maps.atKey_of_not_has hh _)
                        have h3 := h1.symm.trans h2
                        cases h3
                    obtain ⟨u, hu⟩ := Option.isSome_iff_exists.1 (by rw [← (HE3.out t).1]; exact hhas)
                    have hcu : c = u := by
                      have h1 := (hat (.held (.int .i64 0))).symm.trans ((HE3.out t).2 u hu _)
                      injection h1
                    obtain ⟨htx, Z, zc, hZ, hrowZ⟩ := HROW.out t u hu
                    subst hcu hZ
                    have K8 : Kp (fun i => i = r) wr w8 := (Kp.refl _ _).grown hg8 (fun k hk => .inl (by cases hk; rfl))
                    have HZ8 := Lib.hid ((((((hrowZ.keep (F := fun _ => False) (Kp.of_below ((Below.refl _ _).alloc (Nat.le_refl _) _)) (fun _ _ e => e)).keep HK3.out (fun i hi e => by have e' : i = xb := e; have h' : mb2 + 1 ≤ i ∧ i < w6.heap.size := hi; omega)).keep (F := fun _ => False) (Kp.of_below HB34.out) (fun _ _ e => e)).keep K8 (fun i hi e => by have e' : i = r := e; have h' : mb2 + 1 ≤ i ∧ i < w6.heap.size := hi; omega))).sl)
                    have HK8 := Lib.hid (HK4.out.trans K8 (fun i _ hi => hi))
                    have HCS := Lib.hid (came_step (p := fun t => decide ((s : Int) ∈ sgs S v t)) hlk HTX.out htx)
                    clear hR hat hu hhas hkey et K8 hrowZ
                    cases hc : decide ((s : Int) ∈ sgs S v t) with
                    | true =>
                      have HCB := Lib.hid hc
                      have HCN : Hid (n + 1 = ((textsV S v).filter fun z => !(left (.string z) && !(Lit.string z).sameKey (.string t)) && decide ((s : Int) ∈ sgs S v z)).length) := by
                        show _ = _
                        rw [HCS.out, hc, ← HNN.out]
                        rfl
                      clear hc
                      go_wp2_with (first | (go_at_call 69; refine (slContains_is (sgs S v t) Z zc s true w8 HCB.out HZ8.out).mono ?_; rintro e w9 ⟨rfl, hb9⟩; have HB9 := Lib.hid hb9; clear hb9) | go_in)
                      go_roundw
                      case rel => exact ⟨_, cnt8, n + 1, hrg8.kept (Below.grownN HB9.out) (by simp) (by simp), by go_num, HCN.out, HK8.out.then_below HB9.out⟩
                      case measure => rw [(hrg8.kept (Below.grownN HB9.out) (by simp) (by simp)).left_eq, hrg.left_eq]; exact hlt8
                    | false =>
                      have HCB := Lib.hid hc
                      have HCN : Hid (n = ((textsV S v).filter fun z => !(left (.string z) && !(Lit.string z).sameKey (.string t)) && decide ((s : Int) ∈ sgs S v z)).length) := by
                        show _ = _
                        rw [HCS.out, hc, ← HNN.out]
                        rfl
                      clear hc
                      go_wp2_with (first | (go_at_call 69; refine (slContains_is (sgs S v t) Z zc s false w8 HCB.out HZ8.out).mono ?_; rintro e w9 ⟨rfl, hb9⟩; have HB9 := Lib.hid hb9; clear hb9) | go_in)
                      go_roundw
                      case rel => exact ⟨_, cnt8, n, hrg8.kept (Below.grownN HB9.out) (by simp) (by simp), rfl, HCN.out, HK8.out.then_below HB9.out⟩
                      case measure => rw [(hrg8.kept (Below.grownN HB9.out) (by simp) (by simp)).left_eq, hrg.left_eq]; exact hlt8
              · obtain rfl : s = ks.length := by omega
                have HBW := Lib.hid (((Below.refl _ _).alloc (Nat.le_refl _) _).trans (HK3.out.below (by simp) (fun i hi => by have h' : i = xb := hi; omega)))
                obtain ⟨who, hwho⟩ : ∃ who, forkWho S v ks.length = who := ⟨_, rfl⟩
                rw [hwho] at HF3
                have HNO := Lib.hid (HNX.out [⟨m, v, who⟩] (by
                  unfold forkAt
                  rw [(fork_texts (fun x hx => (HGM.out x hx).2.1) v).1 HTW.out, if_pos rfl, hwho]))
                clear hwho
                obtain ⟨d0, d1, d2, df, down, dl⟩ := HF3.out
                have HDN := Lib.hid down
                have HRw := Lib.hid (HRj.out.below HBW.out)
                clear down
                go_wp2_with (at_builtin; go_must (refine wpList_append_lies _ rfl _ _ 62 rfl w2.heap.size 73 i0 (.agg #[.string ⟨#[]⟩, .int .i64 0, .slice none 0 0]) 3 48 Tryz.underlying62 hi hz0 hz1 hz2 rfl (by decide) (.slice A' G'.length c') G'.length (fkCells G') rfl (own_below HRw.out.own (Nat.le_refl _) ((Below.refl _ _).alloc (Nat.le_refl _) _)) _ 1 1 [.string m, .int .i64 v, .slice A3 who.length c3] rfl rfl (World.news_of_block (heap_alloc_new wr _)) (fkc_one ⟨⟨m, v, who⟩, A3, c3⟩) (by decide) (by unfold maxLen; omega) (by omega) (by first | omega | (simp; done) | (simp; omega)) _ rfl ?_); intro g cap w9 hown9 hg9 hat9 hlt9; have HG9 := Lib.hid hg9; have HO9 := Lib.hid hown9; clear hg9 hown9)
                go_roundw
                case rel =>
                  refine ⟨j + 1, G' ++ [⟨⟨m, v, who⟩, A3, c3⟩], some ⟨g, 0, none⟩, cap, by omega, by simp; omega, by simp, by go_num, ?_, ?_, ?_⟩
                  · rw [HNO.out]
                    exact HRj.out.step (x := ⟨⟨m, v, who⟩, A3, c3⟩) (HBW.out.alloc (by omega) _) (((SlR.of_own HDN.out (R := fun i => xb + 1 ≤ i) (fun i h1 _ => h1)).keep (F := fun _ => False) (Kp.of_below ((Below.refl _ _).alloc (Nat.le_refl _) _)) (fun _ _ e => e)).mono (fun i h => by omega)) HO9.out HG9.out hat9
                  · exact ((HKj.out.then_below HBW.out).then_below ((Below.refl _ _).alloc (Nat.le_refl _) _)).grown HG9.out (fun i hi => HAT.out i hi)
                  · intro i hi
                    cases hi
                    rcases hat9 with h1 | h1
                    · exact HAT.out g h1
                    · right
                      rw [h1]
                      simp
                      omega
                case measure => simp [Go.RowKit.intOf]; omega
        · obtain rfl : j = vs.length := by omega
          have h9 := HRj.out
          rw [List.take_length, HVF.out] at h9
          have HR9 := Lib.hid h9
          clear h9
          go_wp2_with fail
          go_roundw
          case rel => exact ⟨k + 1, G', A', c', by omega, by omega, rfl, by go_num, by rw [HX.out _ rfl]; exact HR9.out, HBj.out⟩
          case measure => simp [Go.RowKit.intOf]; omega
    · obtain rfl : k = E.length := by omega
      have h9 := HRW.out
      rw [List.take_length] at h9
      have HR9 := Lib.hid h9
      clear h9
      go_wp2_with fail
      go_ret2
      exact ⟨G, A, c, HR9.out.eq, rfl, own_more HR9.out.own (by omega), fun x hx => (HR9.out.its x hx).sl, Hw1.out.trans ((Hk.out.trans (HB.out.mono (by omega))).mono (by omega))⟩
theorem forks_ (ks : List (Int × Int)) (q : Int) (K : Option Addr) (kc : Nat) (L : List It) (N : Option Addr) (nc : Nat) (l : List Frk) (k : Int) (w : World) (hv : forksR ks q L = (l, k)) (hr : Rin w ks K kc) (ht : Rdy w) (hL : Sl w w.heap.size 10 N L.length nc (itCells L)) (hI : ∀ x ∈ L, NIn w x.n x.A x.c x.S x.sc) (hlen : L.length ≤ 1152921504606846976) :
    Calls Tryz.prog 25 #[rollV ks K kc q, .slice N L.length nc] w (OwnFk l k w) := by
  unfold forksR at hv
  by_cases hm : manyE ks q L.length = 0
  · rw [if_pos hm] at hv
    obtain ⟨rfl, rfl⟩ := Prod.mk.inj hv
    exact forks_t ks q K kc L N nc w hm hr ht hL hI
  · rw [if_neg hm] at hv
    obtain ⟨rfl, rfl⟩ := Prod.mk.inj hv
    exact forks_e ks q K kc L N nc _ w rfl hm hr hlen
end Go.Proofs.YtohfofecbdfkgaaGreatDoor
