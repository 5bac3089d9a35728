/-
  AlertBlame: for every roll and notices: if twice the quorum is more than the number of keys, each fork names at least twice the quorum less that number of signers, and none who never signed two ways; and the chapter's examples hold. No condition beyond the row's own (the listed tables of the library, tied by the card).
-/
import Derived.Test.YtohfofecbdfkgaaGreatDoorU10
import Derived.Test.YtohfofecbdfkgaaGreatDoorU15
import Derived.Test.YtohfofecbdfkgaaGreatDoorV03Lb9
namespace Go.Proofs.YtohfofecbdfkgaaGreatDoor
open Go.RowKit Go.ChangeShapes Go.WideShapes Go.ChangeAt Al

def stOf (ev : ByteArray) (b : Std) : Bool := b.ev.toList == ev.toList && b.st != 1
theorem st_take (ev : ByteArray) {l : List Std} {j : Nat} (hj : j < l.length) : (l.take (j + 1)).any (stOf ev) = ((l.take j).any (stOf ev) || stOf ev l[j]) := by
  rw [List.take_succ_eq_append_getElem hj, List.any_append]
  simp
def LbRel2 (ev : ByteArray) (lb : List Std) (w2 : World) (b i : Value) (wr : World) : Prop := ∃ j : Nat, j ≤ lb.length ∧ b = .bool ((lb.take j).any (stOf ev)) ∧ i = .int .i64 j ∧ Below w2.heap.size w2 wr
theorem rollOk_q {ks : List (Int × Int)} {q : Int} (h : rollOk ks q = true) : 1 ≤ q ∧ q ≤ ks.length := by
  unfold rollOk at h
  rw [Bool.and_eq_true, Bool.and_eq_true] at h
  exact inB_true.1 h.2.2
set_option maxRecDepth 100000 in
set_option maxHeartbeats 8000000 in
theorem lblame_ (ks : List (Int × Int)) (q : Int) (K : Option Addr) (kc : Nat) (L : List It) (N : Option Addr) (nc : Nat) (w : World) (hr0 : Rin w ks K kc) (hL : Sl w w.heap.size 10 N L.length nc (itCells L)) (hI : ∀ x ∈ L, NIn w x.n x.A x.c x.S x.sc) (hlen : L.length ≤ 1152921504606846976) (hr : Rdy w) :
    Calls Tryz.prog 8 #[rollV ks K kc q, .slice N L.length nc] w fun e w' => e = .returned (.bool true) ∧ Below w.heap.size w w' := by
  have HR0 : Hid (∀ W, Below w.heap.size w W → Rin W ks K kc) := fun W hW => hr0.below hW
  have HL : Hid (∀ W, Below w.heap.size w W → Sl W W.heap.size 10 N L.length nc (itCells L)) := fun W hW => (hL.below hW).more hW.size
  have HI : Hid (∀ W, Below w.heap.size w W → ∀ x ∈ L, NIn W x.n x.A x.c x.S x.sc) := fun W hW x hx => (hI x hx).below hW
  have HR : Hid (∀ W, Below w.heap.size w W → Rdy W) := fun W hW => hr.below hW
  clear hr0 hL hI hr
  by_cases hm : manyE ks q L.length = 0
  · obtain ⟨ho, h64⟩ := manyE_zero hm
    have h8 := rollOk_len ho
    obtain ⟨hq1, hq2⟩ := rollOk_q ho
    have HRO := Lib.hid ho
    have HS : Hid (settleR ks q L = (settleS ks q L, 0)) := by show _ = _; unfold settleR; rw [if_pos hm]
    have HF : Hid (forksR ks q L = (forksS ks q L, 0)) := by show _ = _; unfold forksR; rw [if_pos hm]
    have HBM : Hid (∀ f ∈ forksS ks q L, ¬ (f.who.length : Int) < 2 * q - ks.length ∧ (∃ b ∈ settleS ks q L, b.ev = f.ev ∧ (b.st == 1) = false) ∧ f.who.length ≤ 8 ∧ ∀ s ∈ f.who, ∃ x ∈ L, ∃ y ∈ L, pickF ks q f.ev f.ver x = true ∧ pickF ks q f.ev f.ver y = true ∧ x.n.a ≠ y.n.a ∧ s ∈ x.who ∧ s ∈ y.who) := by
      intro f hf
      refine ⟨by have := blame_many hf; omega, blame_state hf, by rw [(fork_spec hf).2.2]; exact Nat.le_trans (forkWho_len _ _ _) h8, fun s hs => ?_⟩
      obtain ⟨x, hx, y, hy, h1, h2, h3, h4, h5⟩ := blame_two hf hs
      have pk : ∀ z ∈ (validN ks q L).filter (ofEv f.ev), z.n.a.ver = f.ver → z ∈ L ∧ pickF ks q f.ev f.ver z = true := fun z hz hv => by
        obtain ⟨a1, a2⟩ := List.mem_filter.1 hz
        obtain ⟨a3, a4⟩ := List.mem_filter.1 a1
        refine ⟨a3, ?_⟩
        unfold pickF
        unfold ofEv at a2
        rw [a2, hv, a4]
        simp
      exact ⟨x, (pk x hx h1).1, y, (pk y hy h2).1, (pk x hx h1).2, (pk y hy h2).2, h3, h4, h5⟩
    obtain ⟨la, hla⟩ : ∃ la, la = settleS ks q L := ⟨_, rfl⟩
    obtain ⟨fa, hfa⟩ : ∃ fa, fa = forksS ks q L := ⟨_, rfl⟩
    rw [← hla] at HS HBM
    rw [← hfa] at HF HBM
    clear hm ho hla hfa
    go_enter Tryz.func8, Tryz.ntmps8
    go_wp2_with (first
      | (go_at_call 25; refine (forks_ ks q K kc L N nc fa 0 _ HF.out (HR0.out _ (by (repeat (first | exact Below.refl _ _ | assumption | refine below_drewN ?_ _ | refine Below.drew ?_ | refine Below.setCell ?_ (by first | omega | (simp; done) | (simp; omega)) _ | refine Below.alloc ?_ (by first | omega | (simp; done) | (simp; omega)) _)))) (HR.out _ (by (repeat (first | exact Below.refl _ _ | assumption | refine below_drewN ?_ _ | refine Below.drew ?_ | refine Below.setCell ?_ (by first | omega | (simp; done) | (simp; omega)) _ | refine Below.alloc ?_ (by first | omega | (simp; done) | (simp; omega)) _)))) (HL.out _ (by (repeat (first | exact Below.refl _ _ | assumption | refine below_drewN ?_ _ | refine Below.drew ?_ | refine Below.setCell ?_ (by first | omega | (simp; done) | (simp; omega)) _ | refine Below.alloc ?_ (by first | omega | (simp; done) | (simp; omega)) _)))) (HI.out _ (by (repeat (first | exact Below.refl _ _ | assumption | refine below_drewN ?_ _ | refine Below.drew ?_ | refine Below.setCell ?_ (by first | omega | (simp; done) | (simp; omega)) _ | refine Below.alloc ?_ (by first | omega | (simp; done) | (simp; omega)) _)))) hlen).mono ?_; rintro e w1 ⟨G, A1, c1, hG, rfl, o1, i1, hb⟩; have W1 : Hid (Below w.heap.size w w1) := (show Below w.heap.size w _ from by (repeat (first | exact Below.refl _ _ | assumption | refine below_drewN ?_ _ | refine Below.drew ?_ | refine Below.setCell ?_ (by first | omega | (simp; done) | (simp; omega)) _ | refine Below.alloc ?_ (by first | omega | (simp; done) | (simp; omega)) _))).trans (hb.mono (by simp)); have u0 : w1.cell? ⟨w.heap.size, 0, none⟩ = some (.slice K ks.length kc) := (hb.cell (p := ⟨w.heap.size, 0, none⟩) (by simp)).trans (by simp [go_sem]); have u1 : w1.cell? ⟨w.heap.size, 1, none⟩ = some (.int .i64 q) := (hb.cell (p := ⟨w.heap.size, 1, none⟩) (by simp)).trans (by simp [go_sem]); have lw := hb.size; (try simp at lw); have R1 := Lib.hid (Sl.of_own o1); have I1 := Lib.hid i1; have HG := Lib.hid hG; clear hb o1 i1 hG)
      | (go_at_call 12; refine (settle_ ks q K kc L N nc la 0 w1 HS.out (HR0.out _ W1.out) (HR.out _ W1.out) (HL.out _ W1.out) (HI.out _ W1.out) hlen).mono ?_; rintro e w2 ⟨A2, c2, rfl, o2, hb⟩; have W2 : Hid (Below w.heap.size w w2) := W1.out.trans (hb.mono W1.out.size); have u0 := (hb.cell (p := ⟨w.heap.size, 0, none⟩) (by show w.heap.size < _; omega)).trans u0; have u1 := (hb.cell (p := ⟨w.heap.size, 1, none⟩) (by show w.heap.size < _; omega)).trans u1; have lw2 := hb.size; have R1 := Lib.hid (R1.out.belowT hb); have I1 : Hid (∀ x ∈ G, Sl w2 w2.heap.size 1 x.A x.f.who.length x.c (ints x.f.who)) := (fun x hx => (I1.out x hx).belowT hb); have R2 := Lib.hid (Sl.of_own o2); clear hb o2))
    have HU := Lib.hid (And.intro u0 u1)
    have hgl := Nat.le_trans R1.out.cap R1.out.max
    have hll := Nat.le_trans R2.out.cap R2.out.max
    unfold maxLen at hgl hll
    clear u0 u1
    go_loopw [9] (fun i wr => SaRel G.length w2 i wr) (fun i _ => G.length - (Go.RowKit.intOf i).toNat)
    case atStart => exact ⟨0, Nat.zero_le _, rfl, Below.refl _ _⟩
    case round =>
      obtain ⟨k, hk, rfl, hB⟩ := hrel
      have hsz := hB.size
      have HB := Lib.hid hB
      have u0 := (hB.cell (p := ⟨w.heap.size, 0, none⟩) (by show w.heap.size < _; omega)).trans HU.out.1
      have u1 := (hB.cell (p := ⟨w.heap.size, 1, none⟩) (by show w.heap.size < _; omega)).trans HU.out.2
      have lwr : w.heap.size < wr.heap.size := by omega
      clear hB
      by_cases hlt : k < G.length
      · have i0 : (0 : Int) ≤ (k : Int) := by omega
        have i1 : (k : Int) < (G.length : Int) := by omega
        have hmf : G[k].f ∈ fa := by rw [← HG.out]; exact List.mem_map.2 ⟨_, List.getElem_mem hlt, rfl⟩
        obtain ⟨hbm1, HBS, hwl, HBT⟩ := HBM.out _ hmf
        have HBS := Lib.hid HBS
        have HBT := Lib.hid HBT
        have HFA : Hid (∃ b off, A1 = some ⟨b, off, none⟩ ∧ b < w2.heap.size ∧ w2.cell? ⟨b, off + k * 3, none⟩ = some (.string G[k].f.ev) ∧ w2.cell? ⟨b, off + k * 3 + 1, none⟩ = some (.int .i64 G[k].f.ver) ∧ w2.cell? ⟨b, off + k * 3 + 2, none⟩ = some (.slice G[k].A G[k].f.who.length G[k].c)) := R1.out.fk_at hlt
        have HSG := Lib.hid (I1.out G[k] (List.getElem_mem hlt))
        obtain ⟨g, hg⟩ : ∃ g, g = G[k] := ⟨_, rfl⟩
        rw [← hg] at hbm1 HBS hwl HBT HFA HSG
        clear hg hmf
        obtain ⟨fb, fo, rfl, hfb, f0, f1, f2⟩ := HFA.out
        have y0 := (HB.out.cell (p := ⟨fb, fo + k * 3, none⟩) hfb).trans f0
        have y1 := (HB.out.cell (p := ⟨fb, fo + k * 3 + 1, none⟩) hfb).trans f1
        have y2 := (HB.out.cell (p := ⟨fb, fo + k * 3 + 2, none⟩) hfb).trans f2
        have HF3 := Lib.hid (And.intro f0 (And.intro f1 f2))
        have hfb2 : fb < wr.heap.size := by omega
        clear f0 f1 f2
        go_wp2_with fail
        refine wp_region_bw2 (by kernel_rfl) (by kernel_rfl) (fun hbwc => ?_)
        repeat (go_big_quiet_step (fail))
        refine wpQuiet_nil ?_
        clear hbwc
        intro w3 hb
        have HB3 := Lib.hid (HB.out.trans ((show Below w2.heap.size wr _ from (by (repeat (first | exact Below.refl _ _ | assumption | refine below_drewN ?_ _ | refine Below.drew ?_ | refine Below.setCell ?_ (by first | omega | (simp; done) | (simp; omega)) _ | refine Below.alloc ?_ (by first | omega | (simp; done) | (simp; omega)) _)))).trans (hb.mono (by first | omega | (simp; done) | (simp; omega)))))
        clear hb
        go_wp2_with fail
        go_loopw [10] (fun i wz => SaRel g.f.who.length w2 i wz) (fun i _ => g.f.who.length - (Go.RowKit.intOf i).toNat)
        case atStart => exact ⟨0, Nat.zero_le _, rfl, HB3.out⟩
        case round =>
          obtain ⟨j, hj, rfl, hB4⟩ := hrel
          have HB4 := Lib.hid hB4
          have sz4 := hB4.size
          have u0 := (hB4.cell (p := ⟨w.heap.size, 0, none⟩) (by show w.heap.size < _; omega)).trans HU.out.1
          have u1 := (hB4.cell (p := ⟨w.heap.size, 1, none⟩) (by show w.heap.size < _; omega)).trans HU.out.2
          have y0 := (hB4.cell (p := ⟨fb, fo + k * 3, none⟩) hfb).trans HF3.out.1
          have y1 := (hB4.cell (p := ⟨fb, fo + k * 3 + 1, none⟩) hfb).trans HF3.out.2.1
          have y2 := (hB4.cell (p := ⟨fb, fo + k * 3 + 2, none⟩) hfb).trans HF3.out.2.2
          have hfb3 : fb < wr.heap.size := by omega
          have lwr : w.heap.size < wr.heap.size := by omega
          have HW4 := Lib.hid (W2.out.trans (hB4.mono W2.out.size))
          clear hB4
          by_cases hjl : j < g.f.who.length
          · obtain ⟨sb, so, e, hsb, s0⟩ := ((HSG.out).below HB4.out).int_at hjl hjl
            rw [e] at y2
            clear e
            have m0 : (0 : Int) ≤ (j : Int) := by omega
            have m1 : (j : Int) < (g.f.who.length : Int) := by omega
            have hsb2 : sb < wr.heap.size := by omega
            have HTW := Lib.hid (HBT.out g.f.who[j] (List.getElem_mem hjl))
            obtain ⟨s, hs⟩ : ∃ s, s = g.f.who[j] := ⟨_, rfl⟩
            rw [← hs] at s0 HTW
            clear hs
            obtain ⟨SA, sc, hSA⟩ : ∃ (SA : Option Addr) (sc : Nat), SA = some ⟨sb, so, none⟩ ∧ sc = g.c := ⟨_, _, rfl, rfl⟩
            go_wp2_with fail
            refine wp_region_bw2 (by kernel_rfl) (by kernel_rfl) (fun hbwc => ?_)
            repeat (go_big_quiet_step ((go_at_call 31; exact bwCall (twoWays_ ks q K kc L N nc g.f.ev g.f.ver g.f.who.length _ g.c s _ HRO.out (HR0.out _ (Below.trans (Below.trans HW4.out (by (repeat (first | exact Below.refl _ _ | assumption | refine below_drewN ?_ _ | refine Below.drew ?_ | refine Below.setCell ?_ (by first | omega | (simp; done) | (simp; omega)) _ | refine Below.alloc ?_ (by first | omega | (simp; done) | (simp; omega)) _)))) (Below.mono (BW.below _) (by first | omega | exact HW4.out.size | (simp; exact HW4.out.size) | (simp; have := HW4.out.size; omega))))) (HR.out _ (Below.trans (Below.trans HW4.out (by (repeat (first | exact Below.refl _ _ | assumption | refine below_drewN ?_ _ | refine Below.drew ?_ | refine Below.setCell ?_ (by first | omega | (simp; done) | (simp; omega)) _ | refine Below.alloc ?_ (by first | omega | (simp; done) | (simp; omega)) _)))) (Below.mono (BW.below _) (by first | omega | exact HW4.out.size | (simp; exact HW4.out.size) | (simp; have := HW4.out.size; omega))))) (HL.out _ (Below.trans (Below.trans HW4.out (by (repeat (first | exact Below.refl _ _ | assumption | refine below_drewN ?_ _ | refine Below.drew ?_ | refine Below.setCell ?_ (by first | omega | (simp; done) | (simp; omega)) _ | refine Below.alloc ?_ (by first | omega | (simp; done) | (simp; omega)) _)))) (Below.mono (BW.below _) (by first | omega | exact HW4.out.size | (simp; exact HW4.out.size) | (simp; have := HW4.out.size; omega))))) (HI.out _ (Below.trans (Below.trans HW4.out (by (repeat (first | exact Below.refl _ _ | assumption | refine below_drewN ?_ _ | refine Below.drew ?_ | refine Below.setCell ?_ (by first | omega | (simp; done) | (simp; omega)) _ | refine Below.alloc ?_ (by first | omega | (simp; done) | (simp; omega)) _)))) (Below.mono (BW.below _) (by first | omega | exact HW4.out.size | (simp; exact HW4.out.size) | (simp; have := HW4.out.size; omega))))) h64 HTW.out))))
            refine wpQuiet_nil ?_
            clear hbwc
            intro w3 hb
            have HB5 := Lib.hid (HB4.out.trans ((show Below w2.heap.size wr _ from (by (repeat (first | exact Below.refl _ _ | assumption | refine below_drewN ?_ _ | refine Below.drew ?_ | refine Below.setCell ?_ (by first | omega | (simp; done) | (simp; omega)) _ | refine Below.alloc ?_ (by first | omega | (simp; done) | (simp; omega)) _)))).trans (hb.mono (by first | omega | (simp; done) | (simp; omega)))))
            clear hb
            go_wp2_with fail
            go_roundw
            case rel => exact ⟨j + 1, by omega, by go_num, HB5.out⟩
            case measure => simp [Go.RowKit.intOf]; omega
          · obtain rfl : j = g.f.who.length := by omega
            go_wp2_with fail
            go_loopw [11, 12] (fun b i wz => LbRel2 g.f.ev la w2 b i wz) (fun _ i _ => la.length - (Go.RowKit.intOf i).toNat)
            case atStart => exact ⟨0, Nat.zero_le _, rfl, rfl, HB4.out⟩
            case round =>
              obtain ⟨i, hi, rfl, rfl, hB6⟩ := hrel
              have HB6 := Lib.hid hB6
              have sz6 := hB6.size
              have y0 := (hB6.cell (p := ⟨fb, fo + k * 3, none⟩) hfb).trans HF3.out.1
              have hfb4 : fb < wr.heap.size := by omega
              clear hB6
              by_cases hil : i < la.length
              · have m0 : (0 : Int) ≤ (i : Int) := by omega
                have m1 : (i : Int) < (la.length : Int) := by omega
                obtain ⟨bb, bo, rfl, hbb, z0, z1, z2, z3⟩ := (R2.out.below HB6.out).std_at hil
                have hbb2 : bb < wr.heap.size := by omega
                have HTK := Lib.hid (st_take g.f.ev hil)
                obtain ⟨b, hb⟩ : ∃ b, b = la[i] := ⟨_, rfl⟩
                rw [← hb] at z0 z1 z2 z3 HTK
                clear hb z2 z3
                cases hvv : (la.take i).any (stOf g.f.ev) with
                | true =>
                  have HN : Hid ((la.take (i + 1)).any (stOf g.f.ev) = true) := by show _ = _; rw [HTK.out, hvv]; rfl
                  clear hvv
                  go_wp2_with fail
                  refine wp_region_bw2 (by kernel_rfl) (by kernel_rfl) (fun hbwc => ?_)
                  repeat (go_big_quiet_step (fail))
                  refine wpQuiet_nil ?_
                  clear hbwc
                  intro w3 hb
                  have HB7 := Lib.hid (HB6.out.trans ((show Below w2.heap.size wr _ from (by (repeat (first | exact Below.refl _ _ | assumption | refine below_drewN ?_ _ | refine Below.drew ?_ | refine Below.setCell ?_ (by first | omega | (simp; done) | (simp; omega)) _ | refine Below.alloc ?_ (by first | omega | (simp; done) | (simp; omega)) _)))).trans (hb.mono (by first | omega | (simp; done) | (simp; omega)))))
                  clear hb
                  go_wp2_with fail
                  go_roundw
                  case rel => exact ⟨i + 1, by omega, by rw [HN.out], by go_num, HB7.out⟩
                  case measure => simp [Go.RowKit.intOf]; omega
                | false =>
                  cases he : (b.ev.toList == g.f.ev.toList) with
                  | false =>
                    have HN : Hid ((la.take (i + 1)).any (stOf g.f.ev) = false) := by show _ = _; rw [HTK.out, hvv]; unfold stOf; rw [he]; rfl
                    clear hvv
                    go_wp2_with fail
                    refine wp_region_bw2 (by kernel_rfl) (by kernel_rfl) (fun hbwc => ?_)
                    repeat (go_big_quiet_step (fail))
                    refine wpQuiet_nil ?_
                    clear hbwc
                    intro w3 hb
                    have HB7 := Lib.hid (HB6.out.trans ((show Below w2.heap.size wr _ from (by (repeat (first | exact Below.refl _ _ | assumption | refine below_drewN ?_ _ | refine Below.drew ?_ | refine Below.setCell ?_ (by first | omega | (simp; done) | (simp; omega)) _ | refine Below.alloc ?_ (by first | omega | (simp; done) | (simp; omega)) _)))).trans (hb.mono (by first | omega | (simp; done) | (simp; omega)))))
                    clear hb
                    go_wp2_with fail
                    go_roundw
                    case rel => exact ⟨i + 1, by omega, by rw [HN.out], by go_num, HB7.out⟩
                    case measure => simp [Go.RowKit.intOf]; omega
                  | true =>
                    obtain ⟨sv, hsv⟩ : ∃ sv, (b.st != 1) = sv := ⟨_, rfl⟩
                    have HN : Hid ((la.take (i + 1)).any (stOf g.f.ev) = sv) := by show _ = _; rw [HTK.out, hvv]; unfold stOf; rw [he, hsv]; rfl
                    clear hvv
                    cases sv
                    all_goals
                      go_wp2_with fail
                      refine wp_region_bw2 (by kernel_rfl) (by kernel_rfl) (fun hbwc => ?_)
                      repeat (go_big_quiet_step (fail))
                      refine wpQuiet_nil ?_
                      clear hbwc
                      intro w3 hb
                      have HB7 := Lib.hid (HB6.out.trans ((show Below w2.heap.size wr _ from (by (repeat (first | exact Below.refl _ _ | assumption | refine below_drewN ?_ _ | refine Below.drew ?_ | refine Below.setCell ?_ (by first | omega | (simp; done) | (simp; omega)) _ | refine Below.alloc ?_ (by first | omega | (simp; done) | (simp; omega)) _)))).trans (hb.mono (by first | omega | (simp; done) | (simp; omega)))))
                      clear hb
                      go_wp2_with fail
                      go_roundw
                      case rel => exact ⟨i + 1, by omega, by rw [HN.out], by go_num, HB7.out⟩
                      case measure => simp [Go.RowKit.intOf]; omega
              · obtain rfl : i = la.length := by omega
                have hany : (la.take la.length).any (stOf g.f.ev) = true := by
                  rw [List.take_length]
                  obtain ⟨b, hb, e, h1⟩ := HBS.out
                  exact List.any_eq_true.2 ⟨b, hb, by unfold stOf; rw [e, bne, h1]; simp⟩
                rw [hany]
                go_wp2_with fail
                go_roundw
                case rel => exact ⟨k + 1, by omega, by go_num, HB6.out⟩
                case measure => simp [Go.RowKit.intOf]; omega
      · obtain rfl : k = G.length := by omega
        have HWr := Lib.hid (W2.out.trans (HB.out.mono W2.out.size))
        go_wp2_with (go_at_call 13; refine (works_ wr (HR.out _ HWr.out)).mono ?_; rintro e w7 ⟨rfl, hb⟩; have Ww7 : Hid (Below w.heap.size w w7) := HWr.out.trans (hb.mono HWr.out.size); clear hb)
        go_ret
        exact ⟨rfl, Ww7.out⟩
  · obtain ⟨v, hv⟩ : ∃ v, manyE ks q L.length = v := ⟨_, rfl⟩
    rw [hv] at hm
    have HS : Hid (settleR ks q L = ([], v)) := by show _ = _; unfold settleR; rw [hv, if_neg hm]
    have HF : Hid (forksR ks q L = ([], v)) := by show _ = _; unfold forksR; rw [hv, if_neg hm]
    have hv1 : (v != 0) = true := by simpa using hm
    have hv2 : (v == v) = true := by simp
    clear hv hm
    go_enter Tryz.func8, Tryz.ntmps8
    go_wp2_with (first
      | (go_at_call 25; refine (forks_ ks q K kc L N nc [] v _ HF.out (HR0.out _ (by (repeat (first | exact Below.refl _ _ | assumption | refine below_drewN ?_ _ | refine Below.drew ?_ | refine Below.setCell ?_ (by first | omega | (simp; done) | (simp; omega)) _ | refine Below.alloc ?_ (by first | omega | (simp; done) | (simp; omega)) _)))) (HR.out _ (by (repeat (first | exact Below.refl _ _ | assumption | refine below_drewN ?_ _ | refine Below.drew ?_ | refine Below.setCell ?_ (by first | omega | (simp; done) | (simp; omega)) _ | refine Below.alloc ?_ (by first | omega | (simp; done) | (simp; omega)) _)))) (HL.out _ (by (repeat (first | exact Below.refl _ _ | assumption | refine below_drewN ?_ _ | refine Below.drew ?_ | refine Below.setCell ?_ (by first | omega | (simp; done) | (simp; omega)) _ | refine Below.alloc ?_ (by first | omega | (simp; done) | (simp; omega)) _)))) (HI.out _ (by (repeat (first | exact Below.refl _ _ | assumption | refine below_drewN ?_ _ | refine Below.drew ?_ | refine Below.setCell ?_ (by first | omega | (simp; done) | (simp; omega)) _ | refine Below.alloc ?_ (by first | omega | (simp; done) | (simp; omega)) _)))) hlen).mono ?_; rintro e w1 ⟨G, A1, c1, hG, rfl, _, _, hb⟩; have hG0 : G.length = 0 := (by have := congrArg List.length hG; simpa using this); have W1 : Hid (Below w.heap.size w w1) := (show Below w.heap.size w _ from by (repeat (first | exact Below.refl _ _ | assumption | refine below_drewN ?_ _ | refine Below.drew ?_ | refine Below.setCell ?_ (by first | omega | (simp; done) | (simp; omega)) _ | refine Below.alloc ?_ (by first | omega | (simp; done) | (simp; omega)) _))).trans (hb.mono (by simp)); have u0 : w1.cell? ⟨w.heap.size, 0, none⟩ = some (.slice K ks.length kc) := (hb.cell (p := ⟨w.heap.size, 0, none⟩) (by simp)).trans (by simp [go_sem]); have u1 : w1.cell? ⟨w.heap.size, 1, none⟩ = some (.int .i64 q) := (hb.cell (p := ⟨w.heap.size, 1, none⟩) (by simp)).trans (by simp [go_sem]); have lw := hb.size; (try simp at lw); clear hb hG)
      | (go_at_call 12; refine (settle_ ks q K kc L N nc [] v w1 HS.out (HR0.out _ W1.out) (HR.out _ W1.out) (HL.out _ W1.out) (HI.out _ W1.out) hlen).mono ?_; rintro e w2 ⟨A2, c2, rfl, _, hb⟩; have W2 : Hid (Below w.heap.size w w2) := W1.out.trans (hb.mono W1.out.size); clear hb u0 u1)
      | (go_at_call 13; refine (works_ w2 (HR.out _ W2.out)).mono ?_; rintro e w7 ⟨rfl, hb⟩; have Ww7 : Hid (Below w.heap.size w w7) := W2.out.trans (hb.mono W2.out.size); clear hb))
    go_ret
    exact ⟨rfl, Ww7.out⟩

set_option maxRecDepth 100000 in
theorem alertBlame_contract (H : Type) (enc : TypeId × Value → H) (W : World) (base : Nat) (args : Array Value) (ds gs : List (DataW H)) (before : List MemPlace)
    (hval : ∀ (j : Nat) t v, Tryz.f8.params[j]? = some t → args[j]? = some v → Value.okWide Tryz.prog W .any base t v)
    (hW : DataW.Whole enc Tryz.prog Tryz.f8.params.toList Rows.alertBlameSpec.vars false W args.toList ds gs before)
    (hwt : (DataW.weightsEach Tryz.prog Tryz.f8.params.toList ds).all (· ≤ reachBytes) = true) (hL : laidMetH Tryz.prog Rows.alertBlameRow.laid W) :
    Calls Tryz.prog 8 args W fun e W' => ∃ v, e = .returned v ∧ Rows.alertBlameSpec.post enc Tryz.prog Tryz.f8 false true false false W args v W' := by
  have hlt : ∀ x ∈ before, x.block < W.heap.size := fun x hx => hW.lt x hx
  have hW' := hW
  obtain ⟨p, q, hA0, hV, rfl, _, _⟩ := hW
  have hA : DataW.TrodAll enc Tryz.prog W 0 (fun _ => true) true Tryz.f8.params.toList args.toList ds p := hA0
  have hrdy : Rdy W := rdyOf hL
  obtain ⟨rfl, rfl⟩ := trodVars_none hV
  rw [Tryz.params8] at hA hval hwt
  have rd : ∀ (j : Nat) (t : TypeId) (v : Value), ([24, 25] : List TypeId)[j]? = some t → args.toList[j]? = some v → Rdg enc W W.heap.size t v.cells.toList := fun j t v h1 h2 =>
    rdgOf hA (fun x hx => hlt x (List.mem_append.2 (.inl hx))) hwt h1 h2
  obtain ⟨v0, vs0, d0, ds0, p0, q0, e0, rfl, rfl, h0, r0⟩ := trodAll_cons hA
  obtain ⟨v1, vs1, d1, ds1, p1, q1, e1, rfl, rfl, h1, r1⟩ := trodAll_cons r0
  obtain ⟨rfl, rfl, rfl⟩ := trodAll_nil r1
  obtain rfl : args = #[v0, v1] := by cases args; simp_all
  have walk : Calls Tryz.prog 8 #[v0, v1] W fun e w' => e = .returned (.bool true) ∧ Below W.heap.size W w' := by
    obtain ⟨c0, hc0, _⟩ := okWide_struct Tryz.underlying24 (hval 0 24 v0 rfl rfl)
    obtain ⟨N, n, nc, hc1⟩ := okWide_slice Tryz.underlying25 (hval 1 25 v1 rfl rfl)
    obtain ⟨K, kc, ks, qq, hk, hks⟩ := roll_open (rd 0 24 v0 rfl rfl)
    obtain ⟨N', nc', L, hn, hl, hbytes, hL⟩ := ntcs_open (rd 1 25 v1 rfl rfl)
    subst hc0 hc1
    have e0 : c0 = #[.slice K ks.length kc, .int .i64 qq] := by rw [← Array.toList_inj]; exact hk
    subst e0
    obtain ⟨rfl, rfl, rfl⟩ : N = N' ∧ n = L.length ∧ nc = nc' := by have h : [Value.slice N n nc] = [Value.slice N' L.length nc'] := hn; simpa using h
    exact lblame_ ks qq K kc L N nc W hks hl (fun x hx => ⟨⟨(hL x hx).ev, (hL x hx).cells⟩, (hL x hx).sigs⟩) (by omega) hrdy
  refine walk.mono fun e W' ⟨he, hb⟩ => ?_
  subst he
  exact ⟨_, rfl, lawPost hW' rfl (by kernel_rfl) rfl (by rw [Tryz.params8]; intro t ht; simp at ht; rcases ht with rfl | rfl <;> exact ⟨by kernel_rfl, of_decide_eq_true (by kernel_rfl)⟩) hb⟩

theorem alertBlame_reads (os : Os) {H : Type} (enc : TypeId × Value → H) : ∃ places, DataW.whole enc Tryz.prog ((laidWorld os).forCall (fun _ _ => 0) ⟨#[], #[.agg #[.slice none 0 0, .int .i64 0], .slice none 0 0], []⟩).memory Tryz.f8.params.toList Rows.alertBlameSpec.vars false (#[.agg #[.slice none 0 0, .int .i64 0], .slice none 0 0] : Array Value).toList 8 = some ([.agg [.nil, .lit (.int .i64 0)], .nil], [], places) :=
  ⟨[], by kernel_rfl⟩
set_option maxRecDepth 100000 in
theorem alertBlame_lifted (os : Os) (started : os.Started) (H : Type) (enc : TypeId × Value → H) (F : Stop.Interp) :
    ReturnsInHanded {} Tryz.checked os 8 .any ((OpenSpec.ofChange Rows.alertBlameSpec).preRow enc Tryz.prog Tryz.f8 Rows.alertBlameRow.domain false Rows.alertBlameRow.laid) (((OpenSpec.ofChange Rows.alertBlameSpec).at F).post enc Tryz.prog Tryz.f8 false true false false) := by
  obtain ⟨places, hx⟩ := alertBlame_reads os enc
  refine returnsInHanded_of_row (C := Tryz.checked) (s := OpenSpec.ofChange Rows.alertBlameSpec) own started (by kernel_rfl) Tryz.func8
    (witness_row_at (enc := enc) (C := Tryz.checked) false (laidWorld os) #[.agg #[.slice none 0 0, .int .i64 0], .slice none 0 0] rfl (by kernel_rfl) (by kernel_rfl) (by kernel_rfl)
      (OpenSpec.preRow_of_cond 8 hx (by kernel_rfl) (fun k hk => by cases hk) (by kernel_rfl) (laid_met os _))) ?_
  intro W base args ds gs before hval hW _ _ hwt hL _ _
  refine alertBlame_contract H enc W base args ds gs before hval hW ?_ hL
  have hgs : gs = [] := by
    obtain ⟨p, q, _, hV, _⟩ := hW
    exact (trodVars_none hV).1
  subst hgs
  have hw2 : (DataW.weightsEach Tryz.prog (Tryz.f8.params.toList ++ []) (ds ++ [])).all (· ≤ reachBytes) = true := hwt
  rw [List.append_nil, List.append_nil] at hw2
  exact hw2
theorem alertBlame_said : Rows.AlertBlameSaid :=
  OpenClaim.holds_of_cond 8 Tryz.f8 rfl rfl rfl rfl rfl rfl rfl ⟨rfl, rfl, rfl, rfl, rfl⟩ rfl rfl rfl rfl rfl (by kernel_rfl) Tryz.func8 (by kernel_rfl)
    (of_decide_eq_true (by kernel_rfl)) (by unfold Func.isWrapper; first | (rw [if_pos (by decide +kernel)]; kernel_rfl) | (rw [if_neg (by decide +kernel)]; exact ⟨rfl, rfl⟩))
    (fun os started H enc _ F => by rw [OpenClaim.pre_eq_preRow]; exact alertBlame_lifted os started H enc F)
theorem alertBlame_plain (f : FuncId) (fn : Func) (hf : Tryz.pinned.checked.prog.funcNamed "ringdown/ringdownlaw10.AlertBlame" = some f) (hfn : Tryz.pinned.checked.prog.funcs[f]? = some fn) :
    true = Tryz.pinned.checked.prog.looks [] ∧ ∀ (j : Nat) t, fn.params[j]? = some t → Tryz.pinned.checked.prog.wantsStandIn t = false := by
  obtain rfl : f = 8 := Option.some.inj ((show Tryz.prog.funcNamed "ringdown/ringdownlaw10.AlertBlame" = some 8 by kernel_rfl).symm.trans hf) |>.symm
  obtain rfl : fn = Tryz.f8 := (Option.some.inj (Tryz.func8.symm.trans hfn)).symm
  refine ⟨by kernel_rfl, fun j t ht => ?_⟩
  rw [Tryz.params8] at ht
  have := Array.mem_of_getElem? ht
  simp at this
  rcases this with rfl | rfl
  · exact (show Tryz.prog.wantsStandIn 24 = false by kernel_rfl)
  · exact (show Tryz.prog.wantsStandIn 25 = false by kernel_rfl)
/-- The law's card. -/
theorem alertBlame_card : Rows.AlertBlameCardSaid :=
  Claim7.holds_tied_plain_at .later [] _ _ _ _ alertBlame_said (fun _ h => by cases h) (by kernel_rfl) (fun _ h => by cases h) alertBlame_row_tie rfl ⟨rfl, rfl⟩ (by kernel_rfl) rfl alertBlame_plain (by kernel_rfl)
end Go.Proofs.YtohfofecbdfkgaaGreatDoor
