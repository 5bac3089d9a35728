/-
  AlertStays: for every roll and notices, and however many came first: a withdrawal that was seen stays, and an event that has stood never stands for less; and the chapter's examples hold. No condition beyond the row's own (the listed tables of the library, tied by the card).
-/
import Derived.Test.YtohfofecbdfkgaaGreatDoorU10
import Derived.Test.YtohfofecbdfkgaaGreatDoorU15
import Derived.Test.YtohfofecbdfkgaaGreatDoorV02Lt9
import Derived.Test.YtohfofecbdfkgaaGreatDoorU26
import Derived.Deep.RegionHeld3
namespace Go.Proofs.YtohfofecbdfkgaaGreatDoor
open Go.RowKit Go.ChangeShapes Go.WideShapes Go.ChangeAt Al

theorem lt_take (a : Std) {l : List Std} {j : Nat} (hj : j < l.length) : (l.take (j + 1)).any (fun b => b.ev.toList == a.ev.toList) = ((l.take j).any (fun b => b.ev.toList == a.ev.toList) || (l[j].ev.toList == a.ev.toList)) := by
  rw [List.take_succ_eq_append_getElem hj, List.any_append]
  simp
theorem less_cases {a b : Std} (h : lessStd a b = false) : ((a.st == 2) = true ∧ (b.st != 2) = false ∧ (a.st == 3) = false ∧ (b.st == 1) = false) ∨ ((a.st == 2) = false ∧ (a.st == 3) = true ∧ (b.st == 1) = false) ∨ ((a.st == 2) = false ∧ (a.st == 3) = false ∧ (b.st == 1) = true ∧ ¬ b.ver < a.ver) ∨ ((a.st == 2) = false ∧ (a.st == 3) = false ∧ (b.st == 1) = false) := by
  unfold lessStd at h
  simp only [Bool.or_eq_false_iff, Bool.and_eq_false_iff, Bool.not_eq_false', decide_eq_false_iff_not] at h
  obtain ⟨⟨h1, h2⟩, h3⟩ := h
  cases e1 : (a.st == 2) with
  | true =>
    have hb : (b.st == 2) = true := h1.resolve_left (by rw [e1]; simp)
    have ha : a.st = 2 := by simpa using e1
    have hb2 : b.st = 2 := by simpa using hb
    exact .inl ⟨rfl, by simp [hb2], by simp [ha], by simp [hb2]⟩
  | false =>
    cases e2 : (a.st == 3) with
    | true => exact .inr (.inl ⟨rfl, rfl, h2.resolve_left (by rw [e2]; simp)⟩)
    | false =>
      cases e3 : (b.st == 1) with
      | true => exact .inr (.inr (.inl ⟨rfl, rfl, rfl, h3.resolve_left (by rw [e3]; simp)⟩))
      | false => exact .inr (.inr (.inr ⟨rfl, rfl, rfl⟩))
def LtRel (a : Std) (lb : List Std) (w2 : World) (b i : Value) (wr : World) : Prop := ∃ j : Nat, j ≤ lb.length ∧ b = .bool ((lb.take j).any fun b => b.ev.toList == a.ev.toList) ∧ i = .int .i64 j ∧ Below w2.heap.size w2 wr
set_option maxRecDepth 100000 in
set_option maxHeartbeats 8000000 in
theorem lstays_ (ks : List (Int × Int)) (q : Int) (K : Option Addr) (kc : Nat) (L : List It) (N : Option Addr) (nc : Nat) (many : Int) (w : World) (hr0 : Rin w ks K kc) (hL : Sl w w.heap.size 10 N L.length nc (itCells L)) (hI : ∀ x ∈ L, NIn w x.n x.A x.c x.S x.sc) (hlen : L.length ≤ 1152921504606846976) (hr : Rdy w) :
    Calls Tryz.prog 3 #[rollV ks K kc q, .slice N L.length nc, .int .i64 many] w fun e w' => e = .returned (.bool true) ∧ Below w.heap.size w w' := by
  obtain ⟨mk, hmk⟩ : ∃ mk : Nat, many % ((L.length : Int) + 1) = (mk : Int) := ⟨(many % ((L.length : Int) + 1)).toNat, (Int.toNat_of_nonneg (Int.emod_nonneg _ (by omega))).symm⟩
  have hmk2 : mk ≤ L.length := by have := Int.emod_lt_of_pos many (show (0 : Int) < (L.length : Int) + 1 by omega); omega
  have hMl : (L.take mk).length = mk := by rw [List.length_take]; omega
  have hLM := hL.take_it hmk2
  have hcap := hL.cap
  have hmax := hL.max
  unfold maxLen at hmax
  have HST : Hid (∀ a ∈ settleS ks q (L.take mk), (∃ b ∈ settleS ks q L, b.ev = a.ev) ∧ ∀ b ∈ settleS ks q L, b.ev = a.ev → lessStd a b = false) := fun a ha => settle_stays ha
  have HIM : Hid (∀ W, Below w.heap.size w W → ∀ x ∈ L.take mk, NIn W x.n x.A x.c x.S x.sc) := fun W hW x hx => (hI x (List.mem_of_mem_take hx)).below hW
  have HI : Hid (∀ W, Below w.heap.size w W → ∀ x ∈ L, NIn W x.n x.A x.c x.S x.sc) := fun W hW x hx => (hI x hx).below hW
  have HR0 := Lib.hid hr0
  have HL := Lib.hid hL
  have HR := Lib.hid hr
  have HMK := Lib.hid hmk
  obtain ⟨M, hM⟩ : ∃ M, M = L.take mk := ⟨_, rfl⟩
  rw [← hM] at hMl hLM HST HIM
  have HLM := Lib.hid hLM
  obtain ⟨la, ka, hsa⟩ : ∃ l k, settleR ks q M = (l, k) := ⟨_, _, rfl⟩
  obtain ⟨lb, kb, hsb⟩ : ∃ l k, settleR ks q L = (l, k) := ⟨_, _, rfl⟩
  have HSA := Lib.hid hsa
  have HSB := Lib.hid hsb
  have p0 : (0 : Int) ≤ (mk : Int) := by omega
  have p1 : (mk : Int) ≤ (nc : Int) := by omega
  clear hr0 hL hI hr hmk hM hLM hsa hsb
  go_enter Tryz.func3, Tryz.ntmps3
  go_wp2_with (go_at_call 11; refine (Mod_is many _ mk _ (by omega) (by omega) HMK.out).mono ?_; rintro e w1 ⟨rfl, rfl⟩)
  have HW0 : Hid (Below w.heap.size w (w.alloc (.cells #[.slice K ks.length kc, .int .i64 q] 24))) := show Below w.heap.size w _ from by (repeat (first | exact Below.refl _ _ | assumption | refine below_drewN ?_ _ | refine Below.drew ?_ | refine Below.setCell ?_ (by first | omega | (simp; done) | (simp; omega)) _ | refine Below.alloc ?_ (by first | omega | (simp; done) | (simp; omega)) _))
  have c0 : (w.alloc (.cells #[.slice K ks.length kc, .int .i64 q] 24)).cell? ⟨w.heap.size, 0, none⟩ = some (.slice K ks.length kc) := by simp [go_sem]
  have c1 : (w.alloc (.cells #[.slice K ks.length kc, .int .i64 q] 24)).cell? ⟨w.heap.size, 1, none⟩ = some (.int .i64 q) := by simp [go_sem]
  rcases N with _ | N
  · obtain rfl : nc = 0 := HL.out.nil_ rfl
    obtain rfl : mk = 0 := by omega
    have HCALL : Hid (∀ W, Below w.heap.size w W → Calls Tryz.prog 12 #[rollV ks K kc q, .slice none 0 0] W (OwnSt la ka W)) := fun W hW => by
      have h := settle_ ks q K kc M none 0 la ka W HSA.out (HR0.out.below hW) (HR.out.below hW) ((HLM.out.below hW).more hW.size) (HIM.out W hW) (by omega)
      rw [hMl] at h
      exact h
    have E0 : Below w.heap.size w (w.alloc (.cells #[.slice K ks.length kc, .int .i64 q] 24)) := show Below w.heap.size w _ from by (repeat (first | exact Below.refl _ _ | assumption | refine below_drewN ?_ _ | refine Below.drew ?_ | refine Below.setCell ?_ (by first | omega | (simp; done) | (simp; omega)) _ | refine Below.alloc ?_ (by first | omega | (simp; done) | (simp; omega)) _))
    have DC : Below (w.heap.size + 1) (w.alloc (.cells #[.slice K ks.length kc, .int .i64 q] 24)) (w.alloc (.cells #[.slice K ks.length kc, .int .i64 q] 24)) := Below.refl _ _
    go_region_held3 (fun w' => ∀ b o, b < w.heap.size + 1 → w'.cell? ⟨b, o, none⟩ = (w.alloc (.cells #[.slice K ks.length kc, .int .i64 q] 24)).cell? ⟨b, o, none⟩) (first | exact kN | exact fun b o h => rfl)
      (first | (go_at_call 12; refine (HCALL.out _ (Below.trans E0 (Below.mono (Below.trans DC (by (repeat (first | exact Below.refl _ _ | assumption | refine below_drewN ?_ _ | refine Below.drew ?_ | refine Below.setCell ?_ (by first | omega | (simp; done) | (simp; omega)) _ | refine Below.alloc ?_ (by first | omega | (simp; done) | (simp; omega)) _)))) (Nat.le_succ _)))).mono ?_; rintro e wn ⟨A1, a1, rfl, o1, hbn⟩; have R1 := Lib.hid (Sl.of_own o1); have sC := hbn.size; (try simp at sC); have DC := Below.trans DC (Below.trans (show Below (w.heap.size + 1) _ _ from (by (repeat (first | exact Below.refl _ _ | assumption | refine below_drewN ?_ _ | refine Below.drew ?_ | refine Below.setCell ?_ (by first | omega | (simp; done) | (simp; omega)) _ | refine Below.alloc ?_ (by first | omega | (simp; done) | (simp; omega)) _)))) (hbn.mono (by first | omega | (simp; done) | (simp; omega)))); have kN := (fun b o (h : b < w.heap.size + 1) => DC.cell (p := ⟨b, o, none⟩) h); clear o1 hbn))
    all_goals
      have HW1 : Hid (Below w.heap.size w wn) := E0.trans (DC.mono (Nat.le_succ _))
      have k0 := (DC.cell (p := ⟨w.heap.size, 0, none⟩) (Nat.lt_succ_self _)).trans c0
      have k1 := (DC.cell (p := ⟨w.heap.size, 1, none⟩) (Nat.lt_succ_self _)).trans c1
      have lw : w.heap.size < wn.heap.size := by omega
      clear kN c0 c1
      by_cases hz : ka = 0 ∧ kb = 0
      · obtain ⟨rfl, rfl⟩ := hz
        have hla : la = settleS ks q M := by
          have h := HSA.out
          unfold settleR at h
          split at h
          · exact (Prod.mk.inj h).1.symm
          · rename_i hne
            exact absurd (Prod.mk.inj h).2 hne
        have hlb : lb = settleS ks q L := by
          have h := HSB.out
          unfold settleR at h
          split at h
          · exact (Prod.mk.inj h).1.symm
          · rename_i hne
            exact absurd (Prod.mk.inj h).2 hne
        have HPQ : Hid (∀ a ∈ la, (∃ b ∈ lb, b.ev = a.ev) ∧ ∀ b ∈ lb, b.ev = a.ev → lessStd a b = false) := by
          show ∀ a ∈ la, _
          rw [hla, hlb]
          exact HST.out
        clear hla hlb
        go_wp2_with (go_at_call 12; refine (settle_ ks q K kc L none 0 lb 0 wn HSB.out (HR0.out.below HW1.out) (HR.out.below HW1.out) ((HL.out.below HW1.out).more HW1.out.size) (HI.out _ HW1.out) hlen).mono ?_; rintro e w2 ⟨B1, b1, rfl, o2, hb⟩; have R1 := Lib.hid (R1.out.belowT hb); have R2 := Lib.hid (Sl.of_own o2); have HW2 := Lib.hid (HW1.out.trans (hb.mono HW1.out.size)); clear o2 hb k0 k1)
        have hla := Nat.le_trans R1.out.cap R1.out.max
        have hlb := Nat.le_trans R2.out.cap R2.out.max
        unfold maxLen at hla hlb
        go_loopw [11] (fun i wr => SaRel la.length w2 i wr) (fun i _ => la.length - (Go.RowKit.intOf i).toNat)
        case atStart => exact ⟨0, Nat.zero_le _, rfl, Below.refl _ _⟩
        case round =>
          obtain ⟨k, hk, rfl, hB⟩ := hrel
          have hsz := hB.size
          have HB := Lib.hid hB
          clear hB
          by_cases hlt : k < la.length
          · have i0 : (0 : Int) ≤ (k : Int) := by omega
            have i1 : (k : Int) < (la.length : Int) := by omega
            obtain ⟨HEX, HNL⟩ := HPQ.out la[k] (List.getElem_mem hlt)
            have HA : Hid (∃ b off, A1 = some ⟨b, off, none⟩ ∧ b < w2.heap.size ∧ w2.cell? ⟨b, off + k * 4, none⟩ = some (.string la[k].ev) ∧ w2.cell? ⟨b, off + k * 4 + 1, none⟩ = some (.int .i64 la[k].st) ∧ w2.cell? ⟨b, off + k * 4 + 2, none⟩ = some (.int .i64 la[k].ver) ∧ w2.cell? ⟨b, off + k * 4 + 3, none⟩ = some (.int .i64 la[k].dig)) := R1.out.std_at hlt
            obtain ⟨a, ha⟩ : ∃ a, a = la[k] := ⟨_, rfl⟩
            rw [← ha] at HEX HNL HA
            have HNL := Lib.hid HNL
            have HEX := Lib.hid HEX
            clear ha
            go_wp2_with fail
            go_loopw [12, 13] (fun b i wz => LtRel a lb w2 b i wz) (fun _ i _ => lb.length - (Go.RowKit.intOf i).toNat)
            case atStart => exact ⟨0, Nat.zero_le _, rfl, rfl, HB.out⟩
            case round =>
              obtain ⟨j, hj, rfl, rfl, hB2⟩ := hrel
              have hsz2 := hB2.size
              have HB2 := Lib.hid hB2
              clear hB2
              obtain ⟨ab, ao, rfl, hab, a0, a1', a2, a3⟩ := HA.out
              have y0 := (HB2.out.cell (p := ⟨ab, ao + k * 4, none⟩) hab).trans a0
              have y1 := (HB2.out.cell (p := ⟨ab, ao + k * 4 + 1, none⟩) hab).trans a1'
              have y2 := (HB2.out.cell (p := ⟨ab, ao + k * 4 + 2, none⟩) hab).trans a2
              clear a0 a1' a2 a3
              have hab2 : ab < wr.heap.size := by omega
              by_cases hjl : j < lb.length
              · have m0 : (0 : Int) ≤ (j : Int) := by omega
                have m1 : (j : Int) < (lb.length : Int) := by omega
                obtain ⟨bb, bo, rfl, hbb, z0, z1, z2, z3⟩ := (R2.out.below HB2.out).std_at hjl
                have hbb2 : bb < wr.heap.size := by omega
                have HTK := Lib.hid (lt_take a hjl)
                have hmem := List.getElem_mem hjl
                obtain ⟨b, hb⟩ : ∃ b, b = lb[j] := ⟨_, rfl⟩
                rw [← hb] at z0 z1 z2 z3 HTK hmem
                clear hb z3
                cases he : (b.ev.toList == a.ev.toList) with
                | false =>
                  have HN : Hid ((lb.take (j + 1)).any (fun b => b.ev.toList == a.ev.toList) = (lb.take j).any (fun b => b.ev.toList == a.ev.toList)) := by show _ = _; rw [HTK.out, he, Bool.or_false]
                  obtain ⟨vv, hvv⟩ : ∃ vv, vv = (lb.take j).any (fun b => b.ev.toList == a.ev.toList) := ⟨_, rfl⟩
                  have HVV := Lib.hid hvv
                  rw [← hvv]
                  clear hvv
                  go_wp2_with fail
                  refine wp_region_bw2 (by kernel_rfl) (by kernel_rfl) (fun hbwc => ?_)
                  repeat (go_big_quiet_step (fail))
                  refine wpQuiet_nil ?_
                  clear hbwc
                  intro w3 hb
                  have HB3 := Lib.hid (HB2.out.trans ((show Below w2.heap.size wr _ from (by (repeat (first | exact Below.refl _ _ | assumption | refine below_drewN ?_ _ | refine Below.drew ?_ | refine Below.setCell ?_ (by first | omega | (simp; done) | (simp; omega)) _ | refine Below.alloc ?_ (by first | omega | (simp; done) | (simp; omega)) _)))).trans (hb.mono (by first | omega | (simp; done) | (simp; omega)))))
                  clear hb
                  go_wp2_with fail
                  go_roundw
                  case rel => exact ⟨j + 1, by omega, by rw [HN.out, HVV.out], by go_num, HB3.out⟩
                  case measure => simp [Go.RowKit.intOf]; omega
                | true =>
                  have HN : Hid ((lb.take (j + 1)).any (fun b => b.ev.toList == a.ev.toList) = true) := by show _ = _; rw [HTK.out, he, Bool.or_true]
                  have hls := HNL.out b hmem (bytes_inj (by simpa using he))
                  have hcs := less_cases hls
                  clear hls HTK
                  obtain ⟨vv, hvv⟩ : ∃ vv, vv = (lb.take j).any (fun b => b.ev.toList == a.ev.toList) := ⟨_, rfl⟩
                  rw [← hvv]
                  clear hvv
                  rcases hcs with ⟨e1, e2, e3, e4⟩ | ⟨e1, e2, e3⟩ | ⟨e1, e2, e3, e4⟩ | ⟨e1, e2, e3⟩
                  all_goals
                    go_wp2_with fail
                    refine wp_region_bw2 (by kernel_rfl) (by kernel_rfl) (fun hbwc => ?_)
                    repeat (go_big_quiet_step (fail))
                    refine wpQuiet_nil ?_
                    clear hbwc
                    intro w3 hb
                    obtain ⟨hcw3, hfw3⟩ := bcell hb
                    have HB3 := Lib.hid (HB2.out.trans ((show Below w2.heap.size wr _ from (by (repeat (first | exact Below.refl _ _ | assumption | refine below_drewN ?_ _ | refine Below.drew ?_ | refine Below.setCell ?_ (by first | omega | (simp; done) | (simp; omega)) _ | refine Below.alloc ?_ (by first | omega | (simp; done) | (simp; omega)) _)))).trans (hb.mono (by first | omega | (simp; done) | (simp; omega)))))
                    have z9 := hb.size
                    (try simp at z9)
                    have hab3 : ab < w3.heap.size := by omega
                    have hbb3 : bb < w3.heap.size := by omega
                    clear hb
                    go_wp2_with fail
                    refine wp_region_bw2 (by kernel_rfl) (by kernel_rfl) (fun hbwc => ?_)
                    repeat (go_big_quiet_step (fail))
                    refine wpQuiet_nil ?_
                    clear hbwc
                    intro w4 hb
                    have HB4 := Lib.hid (HB3.out.trans ((show Below w2.heap.size w3 _ from (by repeat (first | exact Below.refl _ _ | refine below_drewN ?_ _ | refine Below.drew ?_))).trans (hb.mono (by first | omega | (simp; done) | (simp; omega)))))
                    clear hb
                    go_wp2_with fail
                    go_roundw
                    case rel => exact ⟨j + 1, by omega, by rw [HN.out], by go_num, HB4.out⟩
                    case measure => simp [Go.RowKit.intOf]; omega
              · obtain rfl : j = lb.length := by omega
                have hany : (lb.take lb.length).any (fun b => b.ev.toList == a.ev.toList) = true := by
                  rw [List.take_length]
                  obtain ⟨b, hb, e⟩ := HEX.out
                  exact List.any_eq_true.2 ⟨b, hb, by rw [e]; simp⟩
                rw [hany]
                go_wp2_with fail
                go_roundw
                case rel => exact ⟨k + 1, by omega, by go_num, HB2.out⟩
                case measure => simp [Go.RowKit.intOf]; omega
          · obtain rfl : k = la.length := by omega
            have HWr := Lib.hid (HW2.out.trans (HB.out.mono HW2.out.size))
            go_wp2_with (go_at_call 13; refine (works_ wr (HR.out.below HWr.out)).mono ?_; rintro e w7 ⟨rfl, hb⟩; have Ww7 : Hid (Below w.heap.size w w7) := HWr.out.trans (hb.mono HWr.out.size); clear hb)
            go_ret
            exact ⟨rfl, Ww7.out⟩
      · have hz2 : (ka != 0) = true ∨ ((ka != 0) = false ∧ (kb != 0) = true) := by
          by_cases h1 : ka = 0
          · refine .inr ⟨by simp [h1], by simp; exact fun h2 => hz ⟨h1, h2⟩⟩
          · exact .inl (by simpa using h1)
        clear hz
        rcases hz2 with hza | ⟨hza, hzb⟩
        all_goals
          go_wp2_with (first
            | (go_at_call 12; refine (settle_ ks q K kc L none 0 lb kb wn HSB.out (HR0.out.below HW1.out) (HR.out.below HW1.out) ((HL.out.below HW1.out).more HW1.out.size) (HI.out _ HW1.out) hlen).mono ?_; rintro e w2 ⟨B1, b1, rfl, o2, hb⟩; have HW2 := Lib.hid (HW1.out.trans (hb.mono HW1.out.size)); clear o2 hb k0 k1)
            | (go_at_call 13; refine (works_ w2 (HR.out.below HW2.out)).mono ?_; rintro e w7 ⟨rfl, hb⟩; have Ww7 : Hid (Below w.heap.size w w7) := HW2.out.trans (hb.mono HW2.out.size); clear hb))
          go_ret
          exact ⟨rfl, Ww7.out⟩
  · have HCALL : Hid (∀ W, Below w.heap.size w W → Calls Tryz.prog 12 #[rollV ks K kc q, .slice (some N) mk nc] W (OwnSt la ka W)) := fun W hW => by
      have h := settle_ ks q K kc M (some N) nc la ka W HSA.out (HR0.out.below hW) (HR.out.below hW) ((HLM.out.below hW).more hW.size) (HIM.out W hW) (by omega)
      rw [hMl] at h
      exact h
    have E0 : Below w.heap.size w (w.alloc (.cells #[.slice K ks.length kc, .int .i64 q] 24)) := show Below w.heap.size w _ from by (repeat (first | exact Below.refl _ _ | assumption | refine below_drewN ?_ _ | refine Below.drew ?_ | refine Below.setCell ?_ (by first | omega | (simp; done) | (simp; omega)) _ | refine Below.alloc ?_ (by first | omega | (simp; done) | (simp; omega)) _))
    have DC : Below (w.heap.size + 1) (w.alloc (.cells #[.slice K ks.length kc, .int .i64 q] 24)) (w.alloc (.cells #[.slice K ks.length kc, .int .i64 q] 24)) := Below.refl _ _
    go_region_held3 (fun w' => ∀ b o, b < w.heap.size + 1 → w'.cell? ⟨b, o, none⟩ = (w.alloc (.cells #[.slice K ks.length kc, .int .i64 q] 24)).cell? ⟨b, o, none⟩) (first | exact kN | exact fun b o h => rfl)
      (first | (go_at_call 12; refine (HCALL.out _ (Below.trans E0 (Below.mono (Below.trans DC (by (repeat (first | exact Below.refl _ _ | assumption | refine below_drewN ?_ _ | refine Below.drew ?_ | refine Below.setCell ?_ (by first | omega | (simp; done) | (simp; omega)) _ | refine Below.alloc ?_ (by first | omega | (simp; done) | (simp; omega)) _)))) (Nat.le_succ _)))).mono ?_; rintro e wn ⟨A1, a1, rfl, o1, hbn⟩; have R1 := Lib.hid (Sl.of_own o1); have sC := hbn.size; (try simp at sC); have DC := Below.trans DC (Below.trans (show Below (w.heap.size + 1) _ _ from (by (repeat (first | exact Below.refl _ _ | assumption | refine below_drewN ?_ _ | refine Below.drew ?_ | refine Below.setCell ?_ (by first | omega | (simp; done) | (simp; omega)) _ | refine Below.alloc ?_ (by first | omega | (simp; done) | (simp; omega)) _)))) (hbn.mono (by first | omega | (simp; done) | (simp; omega)))); have kN := (fun b o (h : b < w.heap.size + 1) => DC.cell (p := ⟨b, o, none⟩) h); clear o1 hbn))
    all_goals
      have HW1 : Hid (Below w.heap.size w wn) := E0.trans (DC.mono (Nat.le_succ _))
      have k0 := (DC.cell (p := ⟨w.heap.size, 0, none⟩) (Nat.lt_succ_self _)).trans c0
      have k1 := (DC.cell (p := ⟨w.heap.size, 1, none⟩) (Nat.lt_succ_self _)).trans c1
      have lw : w.heap.size < wn.heap.size := by omega
      clear kN c0 c1
      by_cases hz : ka = 0 ∧ kb = 0
      · obtain ⟨rfl, rfl⟩ := hz
        have hla : la = settleS ks q M := by
          have h := HSA.out
          unfold settleR at h
          split at h
          · exact (Prod.mk.inj h).1.symm
          · rename_i hne
            exact absurd (Prod.mk.inj h).2 hne
        have hlb : lb = settleS ks q L := by
          have h := HSB.out
          unfold settleR at h
          split at h
          · exact (Prod.mk.inj h).1.symm
          · rename_i hne
            exact absurd (Prod.mk.inj h).2 hne
        have HPQ : Hid (∀ a ∈ la, (∃ b ∈ lb, b.ev = a.ev) ∧ ∀ b ∈ lb, b.ev = a.ev → lessStd a b = false) := by
          show ∀ a ∈ la, _
          rw [hla, hlb]
          exact HST.out
        clear hla hlb
        go_wp2_with (go_at_call 12; refine (settle_ ks q K kc L (some N) nc lb 0 wn HSB.out (HR0.out.below HW1.out) (HR.out.below HW1.out) ((HL.out.below HW1.out).more HW1.out.size) (HI.out _ HW1.out) hlen).mono ?_; rintro e w2 ⟨B1, b1, rfl, o2, hb⟩; have R1 := Lib.hid (R1.out.belowT hb); have R2 := Lib.hid (Sl.of_own o2); have HW2 := Lib.hid (HW1.out.trans (hb.mono HW1.out.size)); clear o2 hb k0 k1)
        have hla := Nat.le_trans R1.out.cap R1.out.max
        have hlb := Nat.le_trans R2.out.cap R2.out.max
        unfold maxLen at hla hlb
        go_loopw [11] (fun i wr => SaRel la.length w2 i wr) (fun i _ => la.length - (Go.RowKit.intOf i).toNat)
        case atStart => exact ⟨0, Nat.zero_le _, rfl, Below.refl _ _⟩
        case round =>
          obtain ⟨k, hk, rfl, hB⟩ := hrel
          have hsz := hB.size
          have HB := Lib.hid hB
          clear hB
          by_cases hlt : k < la.length
          · have i0 : (0 : Int) ≤ (k : Int) := by omega
            have i1 : (k : Int) < (la.length : Int) := by omega
            obtain ⟨HEX, HNL⟩ := HPQ.out la[k] (List.getElem_mem hlt)
            have HA : Hid (∃ b off, A1 = some ⟨b, off, none⟩ ∧ b < w2.heap.size ∧ w2.cell? ⟨b, off + k * 4, none⟩ = some (.string la[k].ev) ∧ w2.cell? ⟨b, off + k * 4 + 1, none⟩ = some (.int .i64 la[k].st) ∧ w2.cell? ⟨b, off + k * 4 + 2, none⟩ = some (.int .i64 la[k].ver) ∧ w2.cell? ⟨b, off + k * 4 + 3, none⟩ = some (.int .i64 la[k].dig)) := R1.out.std_at hlt
            obtain ⟨a, ha⟩ : ∃ a, a = la[k] := ⟨_, rfl⟩
            rw [← ha] at HEX HNL HA
            have HNL := Lib.hid HNL
            have HEX := Lib.hid HEX
            clear ha
            go_wp2_with fail
            go_loopw [12, 13] (fun b i wz => LtRel a lb w2 b i wz) (fun _ i _ => lb.length - (Go.RowKit.intOf i).toNat)
            case atStart => exact ⟨0, Nat.zero_le _, rfl, rfl, HB.out⟩
            case round =>
              obtain ⟨j, hj, rfl, rfl, hB2⟩ := hrel
              have hsz2 := hB2.size
              have HB2 := Lib.hid hB2
              clear hB2
              obtain ⟨ab, ao, rfl, hab, a0, a1', a2, a3⟩ := HA.out
              have y0 := (HB2.out.cell (p := ⟨ab, ao + k * 4, none⟩) hab).trans a0
              have y1 := (HB2.out.cell (p := ⟨ab, ao + k * 4 + 1, none⟩) hab).trans a1'
              have y2 := (HB2.out.cell (p := ⟨ab, ao + k * 4 + 2, none⟩) hab).trans a2
              clear a0 a1' a2 a3
              have hab2 : ab < wr.heap.size := by omega
              by_cases hjl : j < lb.length
              · have m0 : (0 : Int) ≤ (j : Int) := by omega
                have m1 : (j : Int) < (lb.length : Int) := by omega
                obtain ⟨bb, bo, rfl, hbb, z0, z1, z2, z3⟩ := (R2.out.below HB2.out).std_at hjl
                have hbb2 : bb < wr.heap.size := by omega
                have HTK := Lib.hid (lt_take a hjl)
                have hmem := List.getElem_mem hjl
                obtain ⟨b, hb⟩ : ∃ b, b = lb[j] := ⟨_, rfl⟩
                rw [← hb] at z0 z1 z2 z3 HTK hmem
                clear hb z3
                cases he : (b.ev.toList == a.ev.toList) with
                | false =>
                  have HN : Hid ((lb.take (j + 1)).any (fun b => b.ev.toList == a.ev.toList) = (lb.take j).any (fun b => b.ev.toList == a.ev.toList)) := by show _ = _; rw [HTK.out, he, Bool.or_false]
                  obtain ⟨vv, hvv⟩ : ∃ vv, vv = (lb.take j).any (fun b => b.ev.toList == a.ev.toList) := ⟨_, rfl⟩
                  have HVV := Lib.hid hvv
                  rw [← hvv]
                  clear hvv
                  go_wp2_with fail
                  refine wp_region_bw2 (by kernel_rfl) (by kernel_rfl) (fun hbwc => ?_)
                  repeat (go_big_quiet_step (fail))
                  refine wpQuiet_nil ?_
                  clear hbwc
                  intro w3 hb
                  have HB3 := Lib.hid (HB2.out.trans ((show Below w2.heap.size wr _ from (by (repeat (first | exact Below.refl _ _ | assumption | refine below_drewN ?_ _ | refine Below.drew ?_ | refine Below.setCell ?_ (by first | omega | (simp; done) | (simp; omega)) _ | refine Below.alloc ?_ (by first | omega | (simp; done) | (simp; omega)) _)))).trans (hb.mono (by first | omega | (simp; done) | (simp; omega)))))
                  clear hb
                  go_wp2_with fail
                  go_roundw
                  case rel => exact ⟨j + 1, by omega, by rw [HN.out, HVV.out], by go_num, HB3.out⟩
                  case measure => simp [Go.RowKit.intOf]; omega
                | true =>
                  have HN : Hid ((lb.take (j + 1)).any (fun b => b.ev.toList == a.ev.toList) = true) := by show _ = _; rw [HTK.out, he, Bool.or_true]
                  have hls := HNL.out b hmem (bytes_inj (by simpa using he))
                  have hcs := less_cases hls
                  clear hls HTK
                  obtain ⟨vv, hvv⟩ : ∃ vv, vv = (lb.take j).any (fun b => b.ev.toList == a.ev.toList) := ⟨_, rfl⟩
                  rw [← hvv]
                  clear hvv
                  rcases hcs with ⟨e1, e2, e3, e4⟩ | ⟨e1, e2, e3⟩ | ⟨e1, e2, e3, e4⟩ | ⟨e1, e2, e3⟩
                  all_goals
                    go_wp2_with fail
                    refine wp_region_bw2 (by kernel_rfl) (by kernel_rfl) (fun hbwc => ?_)
                    repeat (go_big_quiet_step (fail))
                    refine wpQuiet_nil ?_
                    clear hbwc
                    intro w3 hb
                    obtain ⟨hcw3, hfw3⟩ := bcell hb
                    have HB3 := Lib.hid (HB2.out.trans ((show Below w2.heap.size wr _ from (by (repeat (first | exact Below.refl _ _ | assumption | refine below_drewN ?_ _ | refine Below.drew ?_ | refine Below.setCell ?_ (by first | omega | (simp; done) | (simp; omega)) _ | refine Below.alloc ?_ (by first | omega | (simp; done) | (simp; omega)) _)))).trans (hb.mono (by first | omega | (simp; done) | (simp; omega)))))
                    have z9 := hb.size
                    (try simp at z9)
                    have hab3 : ab < w3.heap.size := by omega
                    have hbb3 : bb < w3.heap.size := by omega
                    clear hb
                    go_wp2_with fail
                    refine wp_region_bw2 (by kernel_rfl) (by kernel_rfl) (fun hbwc => ?_)
                    repeat (go_big_quiet_step (fail))
                    refine wpQuiet_nil ?_
                    clear hbwc
                    intro w4 hb
                    have HB4 := Lib.hid (HB3.out.trans ((show Below w2.heap.size w3 _ from (by repeat (first | exact Below.refl _ _ | refine below_drewN ?_ _ | refine Below.drew ?_))).trans (hb.mono (by first | omega | (simp; done) | (simp; omega)))))
                    clear hb
                    go_wp2_with fail
                    go_roundw
                    case rel => exact ⟨j + 1, by omega, by rw [HN.out], by go_num, HB4.out⟩
                    case measure => simp [Go.RowKit.intOf]; omega
              · obtain rfl : j = lb.length := by omega
                have hany : (lb.take lb.length).any (fun b => b.ev.toList == a.ev.toList) = true := by
                  rw [List.take_length]
                  obtain ⟨b, hb, e⟩ := HEX.out
                  exact List.any_eq_true.2 ⟨b, hb, by rw [e]; simp⟩
                rw [hany]
                go_wp2_with fail
                go_roundw
                case rel => exact ⟨k + 1, by omega, by go_num, HB2.out⟩
                case measure => simp [Go.RowKit.intOf]; omega
          · obtain rfl : k = la.length := by omega
            have HWr := Lib.hid (HW2.out.trans (HB.out.mono HW2.out.size))
            go_wp2_with (go_at_call 13; refine (works_ wr (HR.out.below HWr.out)).mono ?_; rintro e w7 ⟨rfl, hb⟩; have Ww7 : Hid (Below w.heap.size w w7) := HWr.out.trans (hb.mono HWr.out.size); clear hb)
            go_ret
            exact ⟨rfl, Ww7.out⟩
      · have hz2 : (ka != 0) = true ∨ ((ka != 0) = false ∧ (kb != 0) = true) := by
          by_cases h1 : ka = 0
          · refine .inr ⟨by simp [h1], by simp; exact fun h2 => hz ⟨h1, h2⟩⟩
          · exact .inl (by simpa using h1)
        clear hz
        rcases hz2 with hza | ⟨hza, hzb⟩
        all_goals
          go_wp2_with (first
            | (go_at_call 12; refine (settle_ ks q K kc L (some N) nc lb kb wn HSB.out (HR0.out.below HW1.out) (HR.out.below HW1.out) ((HL.out.below HW1.out).more HW1.out.size) (HI.out _ HW1.out) hlen).mono ?_; rintro e w2 ⟨B1, b1, rfl, o2, hb⟩; have HW2 := Lib.hid (HW1.out.trans (hb.mono HW1.out.size)); clear o2 hb k0 k1)
            | (go_at_call 13; refine (works_ w2 (HR.out.below HW2.out)).mono ?_; rintro e w7 ⟨rfl, hb⟩; have Ww7 : Hid (Below w.heap.size w w7) := HW2.out.trans (hb.mono HW2.out.size); clear hb))
          go_ret
          exact ⟨rfl, Ww7.out⟩

set_option maxRecDepth 100000 in
theorem alertStays_contract (H : Type) (enc : TypeId × Value → H) (W : World) (base : Nat) (args : Array Value) (ds gs : List (DataW H)) (before : List MemPlace)
    (hval : ∀ (j : Nat) t v, Tryz.f3.params[j]? = some t → args[j]? = some v → Value.okWide Tryz.prog W .any base t v)
    (hW : DataW.Whole enc Tryz.prog Tryz.f3.params.toList Rows.alertStaysSpec.vars false W args.toList ds gs before)
    (hwt : (DataW.weightsEach Tryz.prog Tryz.f3.params.toList ds).all (· ≤ reachBytes) = true) (hL : laidMetH Tryz.prog Rows.alertStaysRow.laid W) :
    Calls Tryz.prog 3 args W fun e W' => ∃ v, e = .returned v ∧ Rows.alertStaysSpec.post enc Tryz.prog Tryz.f3 false true false false W args v W' := by
  have hlt : ∀ x ∈ before, x.block < W.heap.size := fun x hx => hW.lt x hx
  have hW' := hW
  obtain ⟨p, q, hA0, hV, rfl, _, _⟩ := hW
  have hA : DataW.TrodAll enc Tryz.prog W 0 (fun _ => true) true Tryz.f3.params.toList args.toList ds p := hA0
  have hrdy : Rdy W := rdyOf hL
  obtain ⟨rfl, rfl⟩ := trodVars_none hV
  rw [Tryz.params3] at hA hval hwt
  have rd : ∀ (j : Nat) (t : TypeId) (v : Value), ([24, 25, 3] : List TypeId)[j]? = some t → args.toList[j]? = some v → Rdg enc W W.heap.size t v.cells.toList := fun j t v h1 h2 =>
    rdgOf hA (fun x hx => hlt x (List.mem_append.2 (.inl hx))) hwt h1 h2
  obtain ⟨v0, vs0, d0, ds0, p0, q0, e0, rfl, rfl, h0, r0⟩ := trodAll_cons hA
  obtain ⟨v1, vs1, d1, ds1, p1, q1, e1, rfl, rfl, h1, r1⟩ := trodAll_cons r0
  obtain ⟨v2, vs2, d2, ds2, p2, q2, e2, rfl, rfl, h2, r2⟩ := trodAll_cons r1
  obtain ⟨rfl, rfl, rfl⟩ := trodAll_nil r2
  obtain rfl : args = #[v0, v1, v2] := by cases args; simp_all
  have walk : Calls Tryz.prog 3 #[v0, v1, v2] W fun e w' => e = .returned (.bool true) ∧ Below W.heap.size W w' := by
    obtain ⟨c0, hc0, _⟩ := okWide_struct Tryz.underlying24 (hval 0 24 v0 rfl rfl)
    obtain ⟨N, n, nc, hc1⟩ := okWide_slice Tryz.underlying25 (hval 1 25 v1 rfl rfl)
    obtain ⟨many, rfl, _, _⟩ := open_int Tryz.underlying3 (hval 2 3 v2 rfl rfl) h2
    obtain ⟨K, kc, ks, qq, hk, hks⟩ := roll_open (rd 0 24 v0 rfl rfl)
    obtain ⟨N', nc', L, hn, hl, hbytes, hL⟩ := ntcs_open (rd 1 25 v1 rfl rfl)
    subst hc0 hc1
    have e0 : c0 = #[.slice K ks.length kc, .int .i64 qq] := by rw [← Array.toList_inj]; exact hk
    subst e0
    obtain ⟨rfl, rfl, rfl⟩ : N = N' ∧ n = L.length ∧ nc = nc' := by have h : [Value.slice N n nc] = [Value.slice N' L.length nc'] := hn; simpa using h
    exact lstays_ ks qq K kc L N nc many W hks hl (fun x hx => ⟨⟨(hL x hx).ev, (hL x hx).cells⟩, (hL x hx).sigs⟩) (by omega) hrdy
  refine walk.mono fun e W' ⟨he, hb⟩ => ?_
  subst he
  exact ⟨_, rfl, lawPost hW' rfl (by kernel_rfl) rfl (by rw [Tryz.params3]; intro t ht; simp at ht; rcases ht with rfl | rfl | rfl <;> exact ⟨by kernel_rfl, of_decide_eq_true (by kernel_rfl)⟩) hb⟩

theorem alertStays_reads (os : Os) {H : Type} (enc : TypeId × Value → H) : ∃ places, DataW.whole enc Tryz.prog ((laidWorld os).forCall (fun _ _ => 0) ⟨#[], #[.agg #[.slice none 0 0, .int .i64 0], .slice none 0 0, .int .i64 0], []⟩).memory Tryz.f3.params.toList Rows.alertStaysSpec.vars false (#[.agg #[.slice none 0 0, .int .i64 0], .slice none 0 0, .int .i64 0] : Array Value).toList 8 = some ([.agg [.nil, .lit (.int .i64 0)], .nil, .lit (.int .i64 0)], [], places) :=
  ⟨[], by kernel_rfl⟩
set_option maxRecDepth 100000 in
theorem alertStays_lifted (os : Os) (started : os.Started) (H : Type) (enc : TypeId × Value → H) (F : Stop.Interp) :
    ReturnsInHanded {} Tryz.checked os 3 .any ((OpenSpec.ofChange Rows.alertStaysSpec).preRow enc Tryz.prog Tryz.f3 Rows.alertStaysRow.domain false Rows.alertStaysRow.laid) (((OpenSpec.ofChange Rows.alertStaysSpec).at F).post enc Tryz.prog Tryz.f3 false true false false) := by
  obtain ⟨places, hx⟩ := alertStays_reads os enc
  refine returnsInHanded_of_row (C := Tryz.checked) (s := OpenSpec.ofChange Rows.alertStaysSpec) own started (by kernel_rfl) Tryz.func3
    (witness_row_at (enc := enc) (C := Tryz.checked) false (laidWorld os) #[.agg #[.slice none 0 0, .int .i64 0], .slice none 0 0, .int .i64 0] rfl (by kernel_rfl) (by kernel_rfl) (by kernel_rfl)
      (OpenSpec.preRow_of_cond 8 hx (by kernel_rfl) (fun k hk => by cases hk) (by kernel_rfl) (laid_met os _))) ?_
  intro W base args ds gs before hval hW _ _ hwt hL _ _
  refine alertStays_contract H enc W base args ds gs before hval hW ?_ hL
  have hgs : gs = [] := by
    obtain ⟨p, q, _, hV, _⟩ := hW
    exact (trodVars_none hV).1
  subst hgs
  have hw2 : (DataW.weightsEach Tryz.prog (Tryz.f3.params.toList ++ []) (ds ++ [])).all (· ≤ reachBytes) = true := hwt
  rw [List.append_nil, List.append_nil] at hw2
  exact hw2
theorem alertStays_said : Rows.AlertStaysSaid :=
  OpenClaim.holds_of_cond 3 Tryz.f3 rfl rfl rfl rfl rfl rfl rfl ⟨rfl, rfl, rfl, rfl, rfl⟩ rfl rfl rfl rfl rfl (by kernel_rfl) Tryz.func3 (by kernel_rfl)
    (of_decide_eq_true (by kernel_rfl)) (by unfold Func.isWrapper; first | (rw [if_pos (by decide +kernel)]; kernel_rfl) | (rw [if_neg (by decide +kernel)]; exact ⟨rfl, rfl⟩))
    (fun os started H enc _ F => by rw [OpenClaim.pre_eq_preRow]; exact alertStays_lifted os started H enc F)
theorem alertStays_plain (f : FuncId) (fn : Func) (hf : Tryz.pinned.checked.prog.funcNamed "ringdown/ringdownlaw10.AlertStays" = some f) (hfn : Tryz.pinned.checked.prog.funcs[f]? = some fn) :
    true = Tryz.pinned.checked.prog.looks [] ∧ ∀ (j : Nat) t, fn.params[j]? = some t → Tryz.pinned.checked.prog.wantsStandIn t = false := by
  obtain rfl : f = 3 := Option.some.inj ((show Tryz.prog.funcNamed "ringdown/ringdownlaw10.AlertStays" = some 3 by kernel_rfl).symm.trans hf) |>.symm
  obtain rfl : fn = Tryz.f3 := (Option.some.inj (Tryz.func3.symm.trans hfn)).symm
  refine ⟨by kernel_rfl, fun j t ht => ?_⟩
  rw [Tryz.params3] at ht
  have := Array.mem_of_getElem? ht
  simp at this
  rcases this with rfl | rfl | rfl
  · exact (show Tryz.prog.wantsStandIn 24 = false by kernel_rfl)
  · exact (show Tryz.prog.wantsStandIn 25 = false by kernel_rfl)
  · exact (show Tryz.prog.wantsStandIn 3 = false by kernel_rfl)
/-- The law's card. -/
theorem alertStays_card : Rows.AlertStaysCardSaid :=
  Claim7.holds_tied_plain_at .later [] _ _ _ _ alertStays_said (fun _ h => by cases h) (by kernel_rfl) (fun _ h => by cases h) alertStays_row_tie rfl ⟨rfl, rfl⟩ (by kernel_rfl) rfl alertStays_plain (by kernel_rfl)
end Go.Proofs.YtohfofecbdfkgaaGreatDoor
