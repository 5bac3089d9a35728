/-
  AlertBoards: NewBoard, Post, Force, History and Notices return what the chapter says, for every roll and notices, also on a nil and a zero board; and the chapter's examples hold. No condition beyond the row's own (the listed tables of the library, tied by the card).
-/
import Derived.Test.YtohfofecbdfkgaaDoorOp
import Derived.Test.YtohfofecbdfkgaaDoorFm
import Derived.Test.YtohfofecbdfkgaaDoorBz
import Derived.Deep.RegionHeld3
/-
  How an argument that is a list of notices reads.
-/
namespace Go.Proofs.YtohfofecbdfkgaaDoor
open Go.RowKit Al

theorem bNtc : Tryd.prog.bytesOf 32 = 120 := by kernel_rfl
section
variable {H : Type} {enc : TypeId × Value → H} {w : World} {B : Nat} {cs : List Value}
theorem ntcs_open (h : Rdg enc w B 66 cs) : ∃ (A : Option Addr) (c : Nat) (L : List It), cs = [.slice A L.length c] ∧ Sl w B 10 A L.length c (itCells L) ∧ L.length * 120 ≤ 140737488355328 ∧ ∀ x ∈ L, NtB w B x := by
  obtain ⟨A, c, ys, h1, h2, h3, h4⟩ := h.rows Tryd.underlying66 cNotice (by decide) It.lst (NtB w B) (fun cs' hc => ntc_open hc)
  rw [bNtc] at h3
  exact ⟨A, c, ys, h1, h2, Nat.le_trans h3 reach47, h4⟩
end
theorem NtB.nin {w : World} {x : It} (h : NtB w w.heap.size x) : NIn w x.n x.A x.c x.S x.sc := ⟨⟨h.ev, h.cells⟩, h.sigs⟩
end Go.Proofs.YtohfofecbdfkgaaDoor

namespace Go.Proofs.YtohfofecbdfkgaaDoor
open Go.RowKit Go.ChangeShapes Go.WideShapes Go.ChangeAt Al
attribute [local go_sem ↓] Go.wp_at_zero Go.wp_at_succ

abbrev zN : Ntc := ⟨Al.zero, []⟩
theorem notice_ev {M L : List It} {ns : List Ntc} {w : World} (h1 : M.map (·.n) = ns) (h2 : L.map (·.n) = ns) (h3 : ∀ z ∈ L, NIn w z.n z.A z.c z.S z.sc) {z : It} (hz : z ∈ M) : z.n.a.ev.size ≤ maxLen := by
  have : z.n ∈ L.map (·.n) := by rw [h2, ← h1]; exact List.mem_map.2 ⟨z, hz, rfl⟩
  obtain ⟨x, hx, he⟩ := List.mem_map.1 this
  rw [← he]
  exact (h3 x hx).al.ev
def BoRel (w : World) (b y : Nat) (ks : List (Int × Int)) (q : Int) (n : Nat) (i : Value) (wr : World) : Prop :=
  ∃ (k : Nat) (ns : List Ntc), k ≤ n ∧ i = .int .i64 k ∧ Hid (Bo4 (w.heap.size + 1) b y ks q ns ns zN none wr) ∧ Hid (Chained ns) ∧ Hid (Below w.heap.size w wr) ∧ w.heap.size + 1 ≤ wr.heap.size

set_option maxRecDepth 100000 in
set_option maxHeartbeats 16000000 in
theorem lboards_ (ks : List (Int × Int)) (q : Int) (K : Option Addr) (kc : Nat) (L : List It) (N : Option Addr) (nc : Nat) (w : World) (hr0 : Rin w ks K kc) (hL : Sl w w.heap.size 10 N L.length nc (itCells L)) (hI : ∀ x ∈ L, NtB w w.heap.size x) (hlen : L.length ≤ 1152921504606846976) (hr : Rdy w) :
    Calls Tryd.prog 8 #[rollV ks K kc q, .slice N L.length nc] w fun e w' => e = .returned (.bool true) ∧ Below w.heap.size w w' := by
  have HR0 := Lib.hid hr0
  have HL := Lib.hid hL
  have HI := Lib.hid hI
  have HR := Lib.hid hr
  clear hr0 hL hI hr
  by_cases ho : rollOk ks q = true
  · have HO := Lib.hid ho
    clear ho
    go_enter Tryd.func8, Tryd.ntmps8
    go_wp2_with fail
    refine (post_nil _).mono ?_
    rintro e w1 ⟨rfl, hb⟩
    have Hw1 : Hid (Below w.heap.size w w1) := (show Below w.heap.size w _ from (by repeat (first | exact Below.refl _ _ | assumption | refine below_drewN ?_ _ | refine Below.drew ?_ | refine Below.setCell ?_ (by first | omega | (simp; done) | (simp; omega)) _ | refine Below.alloc ?_ (by first | omega | (simp; done) | (simp; omega)) _))).trans (hb.mono (by simp))
    have u0w1 : w1.cell? ⟨w.heap.size, 0, none⟩ = some (.slice K ks.length kc) := by rw [hb.cell (p := ⟨w.heap.size, 0, none⟩) (by simp)]; simp [go_sem]
    have u1w1 : w1.cell? ⟨w.heap.size, 1, none⟩ = some (.int .i64 q) := by rw [hb.cell (p := ⟨w.heap.size, 1, none⟩) (by simp)]; simp [go_sem]
    have lww1 : w.heap.size < w1.heap.size := by have := hb.size; simp at this; omega
    clear hb
    go_wp2_with fail
    refine (post_zero w1.heap.size _ (by simp [go_sem]) (by simp)).mono ?_
    rintro e w2 ⟨rfl, hb⟩
    have Hw2 : Hid (Below w.heap.size w w2) := (show Below w.heap.size w _ from (by repeat (first | exact Below.refl _ _ | exact (Hw1).out | refine below_drewN ?_ _ | refine Below.drew ?_ | refine Below.setCell ?_ (by first | omega | (simp; done) | (simp; omega)) _ | refine Below.alloc ?_ (by first | omega | (simp; done) | (simp; omega)) _))).trans (hb.mono (by first | omega | (simp; done) | (simp; omega)))
    have zw2 : w1.heap.size ≤ w2.heap.size := by have := hb.size; (try simp at this); omega
    have u0w2 : w2.cell? ⟨w.heap.size, 0, none⟩ = some (.slice K ks.length kc) := by rw [hb.cell (p := ⟨w.heap.size, 0, none⟩) (by first | (simp; done) | (simp; omega))]; first | (simp [go_sem, u0w1]; done) | simp [go_sem, u0w1, lww1]
    have u1w2 : w2.cell? ⟨w.heap.size, 1, none⟩ = some (.int .i64 q) := by rw [hb.cell (p := ⟨w.heap.size, 1, none⟩) (by first | (simp; done) | (simp; omega))]; first | (simp [go_sem, u1w1]; done) | simp [go_sem, u1w1, lww1]
    have lww2 : w.heap.size < w2.heap.size := by omega
    clear u0w1 u1w1 lww1
    clear hb
    go_wp2_with fail
    refine (notices_nil _).mono ?_
    rintro e w3 ⟨rfl, hb⟩
    have Hw3 : Hid (Below w.heap.size w w3) := (show Below w.heap.size w _ from (by repeat (first | exact Below.refl _ _ | exact (Hw2).out | refine below_drewN ?_ _ | refine Below.drew ?_ | refine Below.setCell ?_ (by first | omega | (simp; done) | (simp; omega)) _ | refine Below.alloc ?_ (by first | omega | (simp; done) | (simp; omega)) _))).trans (hb.mono (by first | omega | (simp; done) | (simp; omega)))
    have zw3 : w2.heap.size ≤ w3.heap.size := by have := hb.size; (try simp at this); omega
    have u0w3 : w3.cell? ⟨w.heap.size, 0, none⟩ = some (.slice K ks.length kc) := by rw [hb.cell (p := ⟨w.heap.size, 0, none⟩) (by first | (simp; done) | (simp; omega))]; first | (simp [go_sem, u0w2]; done) | simp [go_sem, u0w2, lww2]
    have u1w3 : w3.cell? ⟨w.heap.size, 1, none⟩ = some (.int .i64 q) := by rw [hb.cell (p := ⟨w.heap.size, 1, none⟩) (by first | (simp; done) | (simp; omega))]; first | (simp [go_sem, u1w2]; done) | simp [go_sem, u1w2, lww2]
    have lww3 : w.heap.size < w3.heap.size := by omega
    clear u0w2 u1w2 lww2
    clear hb
    go_wp2_with fail
    refine (history_nil ⟨#[120]⟩ _).mono ?_
    rintro e w4 ⟨rfl, hb⟩
    have Hw4 : Hid (Below w.heap.size w w4) := (show Below w.heap.size w _ from (by repeat (first | exact Below.refl _ _ | exact (Hw3).out | refine below_drewN ?_ _ | refine Below.drew ?_ | refine Below.setCell ?_ (by first | omega | (simp; done) | (simp; omega)) _ | refine Below.alloc ?_ (by first | omega | (simp; done) | (simp; omega)) _))).trans (hb.mono (by first | omega | (simp; done) | (simp; omega)))
    have zw4 : w3.heap.size ≤ w4.heap.size := by have := hb.size; (try simp at this); omega
    have u0w4 : w4.cell? ⟨w.heap.size, 0, none⟩ = some (.slice K ks.length kc) := by rw [hb.cell (p := ⟨w.heap.size, 0, none⟩) (by first | (simp; done) | (simp; omega))]; first | (simp [go_sem, u0w3]; done) | simp [go_sem, u0w3, lww3]
    have u1w4 : w4.cell? ⟨w.heap.size, 1, none⟩ = some (.int .i64 q) := by rw [hb.cell (p := ⟨w.heap.size, 1, none⟩) (by first | (simp; done) | (simp; omega))]; first | (simp [go_sem, u1w3]; done) | simp [go_sem, u1w3, lww3]
    have lww4 : w.heap.size < w4.heap.size := by omega
    clear u0w3 u1w3 lww3
    clear hb
    go_wp2_with fail
    refine (force_zero w4.heap.size ⟨#[120]⟩ _ (by simp [go_sem]) (by simp)).mono ?_
    rintro e w5 ⟨A5, c5, rfl, ho5, hb⟩
    have HA5 : Hid (AIn w5 Al.zero A5 c5) := own_in (by decide) ho5
    clear ho5
    have Hw5 : Hid (Below w.heap.size w w5) := (show Below w.heap.size w _ from (by repeat (first | exact Below.refl _ _ | exact (Hw4).out | refine below_drewN ?_ _ | refine Below.drew ?_ | refine Below.setCell ?_ (by first | omega | (simp; done) | (simp; omega)) _ | refine Below.alloc ?_ (by first | omega | (simp; done) | (simp; omega)) _))).trans (hb.mono (by first | omega | (simp; done) | (simp; omega)))
    have zw5 : w4.heap.size ≤ w5.heap.size := by have := hb.size; (try simp at this); omega
    have u0w5 : w5.cell? ⟨w.heap.size, 0, none⟩ = some (.slice K ks.length kc) := by rw [hb.cell (p := ⟨w.heap.size, 0, none⟩) (by first | (simp; done) | (simp; omega))]; first | (simp [go_sem, u0w4]; done) | simp [go_sem, u0w4, lww4]
    have u1w5 : w5.cell? ⟨w.heap.size, 1, none⟩ = some (.int .i64 q) := by rw [hb.cell (p := ⟨w.heap.size, 1, none⟩) (by first | (simp; done) | (simp; omega))]; first | (simp [go_sem, u1w4]; done) | simp [go_sem, u1w4, lww4]
    have lww5 : w.heap.size < w5.heap.size := by omega
    clear u0w4 u1w4 lww4
    clear hb
    go_wp2_with fail
    refine (same_is Al.zero Al.zero A5 c5 none 0 _ (HA5.out.below (by (repeat (first | exact Below.refl _ _ | assumption | refine below_drewN ?_ _ | refine Below.drew ?_ | refine Below.setCell ?_ (by first | omega | (simp; done) | (simp; omega)) _ | refine Below.alloc ?_ (by first | omega | (simp; done) | (simp; omega)) _)))) (zero_in _) true (sameB_refl _)).mono ?_
    rintro e w6 ⟨rfl, hb⟩
    clear HA5
    have Hw6 : Hid (Below w.heap.size w w6) := (show Below w.heap.size w _ from (by repeat (first | exact Below.refl _ _ | exact (Hw5).out | refine below_drewN ?_ _ | refine Below.drew ?_ | refine Below.setCell ?_ (by first | omega | (simp; done) | (simp; omega)) _ | refine Below.alloc ?_ (by first | omega | (simp; done) | (simp; omega)) _))).trans (hb.mono (by first | omega | (simp; done) | (simp; omega)))
    have zw6 : w5.heap.size ≤ w6.heap.size := by have := hb.size; (try simp at this); omega
    have u0w6 : w6.cell? ⟨w.heap.size, 0, none⟩ = some (.slice K ks.length kc) := by rw [hb.cell (p := ⟨w.heap.size, 0, none⟩) (by first | (simp; done) | (simp; omega))]; first | (simp [go_sem, u0w5]; done) | simp [go_sem, u0w5, lww5]
    have u1w6 : w6.cell? ⟨w.heap.size, 1, none⟩ = some (.int .i64 q) := by rw [hb.cell (p := ⟨w.heap.size, 1, none⟩) (by first | (simp; done) | (simp; omega))]; first | (simp [go_sem, u1w5]; done) | simp [go_sem, u1w5, lww5]
    have lww6 : w.heap.size < w6.heap.size := by omega
    clear u0w5 u1w5 lww5
    clear hb
    go_wp2_with fail
    have lk6 : w.heap.size + 1 ≤ w6.heap.size := by omega
    refine (newBoard_t ks q K kc _ (Rin.below HR0.out (by repeat (first | exact Below.refl _ _ | exact (Hw6).out | refine below_drewN ?_ _ | refine Below.drew ?_ | refine Below.setCell ?_ (by first | omega | (simp; done) | (simp; omega)) _ | refine Below.alloc ?_ (by first | omega | (simp; done) | (simp; omega)) _))) HO.out).mono ?_
    rintro e w7 ⟨b, rfl, hbg, hBd, hb⟩
    have HBD7 : Hid (Bd w7 (fun i => w6.heap.size ≤ i ∧ i < w7.heap.size) b ks q []) := hBd.cut.mono (fun i hi => by simpa using hi)
    clear hBd hbg
    have Hw7 : Hid (Below w.heap.size w w7) := (show Below w.heap.size w _ from (by repeat (first | exact Below.refl _ _ | exact (Hw6).out | refine below_drewN ?_ _ | refine Below.drew ?_ | refine Below.setCell ?_ (by first | omega | (simp; done) | (simp; omega)) _ | refine Below.alloc ?_ (by first | omega | (simp; done) | (simp; omega)) _))).trans (hb.mono (by first | omega | (simp; done) | (simp; omega)))
    have zw7 : w6.heap.size ≤ w7.heap.size := by have := hb.size; (try simp at this); omega
    have u0w7 : w7.cell? ⟨w.heap.size, 0, none⟩ = some (.slice K ks.length kc) := by rw [hb.cell (p := ⟨w.heap.size, 0, none⟩) (by first | (simp; done) | (simp; omega))]; first | (simp [go_sem, u0w6]; done) | simp [go_sem, u0w6, lww6]
    have u1w7 : w7.cell? ⟨w.heap.size, 1, none⟩ = some (.int .i64 q) := by rw [hb.cell (p := ⟨w.heap.size, 1, none⟩) (by first | (simp; done) | (simp; omega))]; first | (simp [go_sem, u1w6]; done) | simp [go_sem, u1w6, lww6]
    have lww7 : w.heap.size < w7.heap.size := by omega
    clear u0w6 u1w6 lww6
    clear hb
    go_wp2_with fail
    refine (rnewBoard_t ks q K kc _ (Rin.below HR0.out (by repeat (first | exact Below.refl _ _ | exact (Hw7).out | refine below_drewN ?_ _ | refine Below.drew ?_ | refine Below.setCell ?_ (by first | omega | (simp; done) | (simp; omega)) _ | refine Below.alloc ?_ (by first | omega | (simp; done) | (simp; omega)) _))) HO.out).mono ?_
    rintro e w8 ⟨y, rfl, hyg, hSp, hb⟩
    have HSP8 : Hid (Sp w8 (fun i => w7.heap.size ≤ i ∧ i < w8.heap.size) y ks q []) := hSp.cut.mono (fun i hi => by simpa using hi)
    have HBD8 := Lib.hid (HBD7.out.below (by first | exact hb | exact Below.trans (by (repeat (first | exact Below.refl _ _ | assumption | refine below_drewN ?_ _ | refine Below.drew ?_ | refine Below.setCell ?_ (by first | omega | (simp; done) | (simp; omega)) _ | refine Below.alloc ?_ (by first | omega | (simp; done) | (simp; omega)) _))) hb))
    clear hSp hyg
    have Hw8 : Hid (Below w.heap.size w w8) := (show Below w.heap.size w _ from (by repeat (first | exact Below.refl _ _ | exact (Hw7).out | refine below_drewN ?_ _ | refine Below.drew ?_ | refine Below.setCell ?_ (by first | omega | (simp; done) | (simp; omega)) _ | refine Below.alloc ?_ (by first | omega | (simp; done) | (simp; omega)) _))).trans (hb.mono (by first | omega | (simp; done) | (simp; omega)))
    have zw8 : w7.heap.size ≤ w8.heap.size := by have := hb.size; (try simp at this); omega
    have u0w8 : w8.cell? ⟨w.heap.size, 0, none⟩ = some (.slice K ks.length kc) := by rw [hb.cell (p := ⟨w.heap.size, 0, none⟩) (by first | (simp; done) | (simp; omega))]; first | (simp [go_sem, u0w7]; done) | simp [go_sem, u0w7, lww7]
    have u1w8 : w8.cell? ⟨w.heap.size, 1, none⟩ = some (.int .i64 q) := by rw [hb.cell (p := ⟨w.heap.size, 1, none⟩) (by first | (simp; done) | (simp; omega))]; first | (simp [go_sem, u1w7]; done) | simp [go_sem, u1w7, lww7]
    have lww8 : w.heap.size < w8.heap.size := by omega
    clear u0w7 u1w7 lww7
    clear hb
    go_wp2_with fail
    go_loopw [12] (fun i wr => BoRel w b y ks q L.length i wr) (fun i _ => L.length - (intOf i).toNat)
    case atStart => exact ⟨0, [], Nat.zero_le _, rfl, Lib.hid ⟨_, _, HBD8.out, HSP8.out, fun i hi => by omega, fun i hi => by omega, fun i h1 h2 => by omega, fun a ha => by cases ha⟩, Lib.hid Chained.nil, Hw8, by omega⟩
    case round =>
      obtain ⟨k, ns, hk, rfl, HB2, HC, HW, hlo⟩ := hrel
      have hsz := HW.out.size
      by_cases hlt : k < L.length
      · obtain ⟨nb, off, rfl, hnb, y0, y1, y2, y3, y4, y5, y6, y7, y8, y9⟩ := (HL.out.below HW.out).it_at hlt
        have i0' : (0 : Int) ≤ (k : Int) := by omega
        have i1' : (k : Int) < (L.length : Int) := by omega
        have hb2 : nb < wr.heap.size := by omega
        have HX := Lib.hid (HI.out L[k] (List.getElem_mem hlt))
        obtain ⟨x, hx⟩ : ∃ x, x = L[k] := ⟨_, rfl⟩
        rw [← hx] at y0 y1 y2 y3 y4 y5 y6 y7 y8 y9 HX
        clear hx
        have HN := Lib.hid HX.out.nin
        have hfw := HX.out.few
        have hfw2 := HX.out.few2
        obtain ⟨pe, hpe⟩ : ∃ v, postE ks q ns x.n = v := ⟨_, rfl⟩
        obtain ⟨ns2, hns2⟩ : ∃ v, postN ks q ns x.n = v := ⟨_, rfl⟩
        have HPE := Lib.hid hpe
        have HNS := Lib.hid hns2
        have HC2 : Hid (Chained ns2) := by rw [← hns2]; exact HC.out.post x.n
        have q1 : (pe != pe) = false := by simp
        clear hpe hns2
        go_wp2_with fail
        have TC : Bo4 (w.heap.size + 1) b y ks q ns ns x.n none wr := HB2.out.bare
        have WC : Below w.heap.size w wr := HW.out
        go_cut [98] (fun s98 wx => s98 = .bool false ∧ Bo4 (w.heap.size + 1) b y ks q ns2 ns2 zN none wx ∧ Below w.heap.size w wx)
        case first =>
          go_region_with (first
            | (go_at_call 38; refine (own_T (w.heap.size + 1) b y ks q _ _ x.n x.A x.c x.S x.sc _ (by first | omega | (simp; done) | (simp; omega)) (TC.below (by (repeat (first | exact Below.refl _ _ | assumption | refine below_drewN ?_ _ | refine Below.drew ?_ | refine Below.setCell ?_ (by first | omega | (simp; done) | (simp; omega)) _ | refine Below.alloc ?_ (by first | omega | (simp; done) | (simp; omega)) _)))) (NIn.below HN.out (Below.trans WC (by (repeat (first | exact Below.refl _ _ | assumption | refine below_drewN ?_ _ | refine Below.drew ?_ | refine Below.setCell ?_ (by first | omega | (simp; done) | (simp; omega)) _ | refine Below.alloc ?_ (by first | omega | (simp; done) | (simp; omega)) _))))) hfw hfw2).mono ?_; rintro e wn ⟨A', c', S', sc', rfl, TC, hbn⟩; have sC := hbn.size; (try simp at sC); have WC := Below.trans WC (Below.trans (show Below w.heap.size _ _ from (by (repeat (first | exact Below.refl _ _ | assumption | refine below_drewN ?_ _ | refine Below.drew ?_ | refine Below.setCell ?_ (by first | omega | (simp; done) | (simp; omega)) _ | refine Below.alloc ?_ (by first | omega | (simp; done) | (simp; omega)) _)))) (hbn.mono (by omega))); have cC : ∀ o, wn.cell? ⟨nb, o, none⟩ = wr.cell? ⟨nb, o, none⟩ := (fun o => (WC.cell (p := ⟨nb, o, none⟩) hnb).trans (HW.out.cell (p := ⟨nb, o, none⟩) hnb).symm))
            | (go_at_call 32; refine (post_T (w.heap.size + 1) b y ks q ns _ x.n A' c' S' sc' pe ns2 _ HPE.out HNS.out (by first | omega | (simp; done) | (simp; omega)) (TC.below (by (repeat (first | exact Below.refl _ _ | assumption | refine below_drewN ?_ _ | refine Below.drew ?_ | refine Below.setCell ?_ (by first | omega | (simp; done) | (simp; omega)) _ | refine Below.alloc ?_ (by first | omega | (simp; done) | (simp; omega)) _)))) HN.out.al.ev (HR.out.below (Below.trans WC (by (repeat (first | exact Below.refl _ _ | assumption | refine below_drewN ?_ _ | refine Below.drew ?_ | refine Below.setCell ?_ (by first | omega | (simp; done) | (simp; omega)) _ | refine Below.alloc ?_ (by first | omega | (simp; done) | (simp; omega)) _)))))).mono ?_; rintro e wn ⟨rfl, TC, hbn⟩; have sC := hbn.size; (try simp at sC); have WC := Below.trans WC (Below.trans (show Below w.heap.size _ _ from (by (repeat (first | exact Below.refl _ _ | assumption | refine below_drewN ?_ _ | refine Below.drew ?_ | refine Below.setCell ?_ (by first | omega | (simp; done) | (simp; omega)) _ | refine Below.alloc ?_ (by first | omega | (simp; done) | (simp; omega)) _)))) (hbn.mono (by omega))); have cC : ∀ o, wn.cell? ⟨nb, o, none⟩ = wr.cell? ⟨nb, o, none⟩ := (fun o => (WC.cell (p := ⟨nb, o, none⟩) hnb).trans (HW.out.cell (p := ⟨nb, o, none⟩) hnb).symm))
            | (go_at_call 39; refine (rpost_T (w.heap.size + 1) b y ks q _ ns x.n _ x.A x.c x.S x.sc pe ns2 _ HPE.out HNS.out (by first | omega | (simp; done) | (simp; omega)) (TC.below (by (repeat (first | exact Below.refl _ _ | assumption | refine below_drewN ?_ _ | refine Below.drew ?_ | refine Below.setCell ?_ (by first | omega | (simp; done) | (simp; omega)) _ | refine Below.alloc ?_ (by first | omega | (simp; done) | (simp; omega)) _)))) (NIn.below HN.out (Below.trans WC (by (repeat (first | exact Below.refl _ _ | assumption | refine below_drewN ?_ _ | refine Below.drew ?_ | refine Below.setCell ?_ (by first | omega | (simp; done) | (simp; omega)) _ | refine Below.alloc ?_ (by first | omega | (simp; done) | (simp; omega)) _)))))).mono ?_; rintro e wn ⟨rfl, TC, hbn⟩; have sC := hbn.size; (try simp at sC); have WC := Below.trans WC (Below.trans (show Below w.heap.size _ _ from (by (repeat (first | exact Below.refl _ _ | assumption | refine below_drewN ?_ _ | refine Below.drew ?_ | refine Below.setCell ?_ (by first | omega | (simp; done) | (simp; omega)) _ | refine Below.alloc ?_ (by first | omega | (simp; done) | (simp; omega)) _)))) (hbn.mono (by omega))); have cC : ∀ o, wn.cell? ⟨nb, o, none⟩ = wr.cell? ⟨nb, o, none⟩ := (fun o => (WC.cell (p := ⟨nb, o, none⟩) hnb).trans (HW.out.cell (p := ⟨nb, o, none⟩) hnb).symm)))
          all_goals
            go_wp2_with fail
            go_meet
            case rel => exact ⟨rfl, TC.bare, WC⟩
        case rest =>
          rename World => wa
          obtain ⟨rfl, hT, hW⟩ := hcut
          have TA := Lib.hid hT
          have WA := Lib.hid hW
          have sza := hW.size
          have hnba : nb < wa.heap.size := by omega
          have ca : ∀ o, wa.cell? ⟨nb, o, none⟩ = wr.cell? ⟨nb, o, none⟩ := fun o => (hW.cell (p := ⟨nb, o, none⟩) hnb).trans (HW.out.cell (p := ⟨nb, o, none⟩) hnb).symm
          obtain ⟨S1, S2, hB, hS, _⟩ := hT
          have hyl : y < wa.heap.size := by
            obtain ⟨R9, K9, kc9, L9, N9, nc9, h9, _⟩ := hS
            exact h9.lt
          have hlo2 : w.heap.size + 1 ≤ wa.heap.size := by
            obtain ⟨T1, T2, g1, g2, g3, _⟩ := TA.out
            obtain ⟨R9, K9, kc9, L9, N9, nc9, mb9, G9, h9, _, h10⟩ := g1
            have := g3 b (h10 b (.inr (.inl rfl)))
            omega
          have BA := Lib.hid hB
          have SA := Lib.hid hS
          obtain ⟨fx, fk, hf⟩ : ∃ fx fk, forceR ns2 x.n.a.ev.data.toList = (fx, fk) := ⟨_, _, rfl⟩
          obtain ⟨l, hl⟩ : ∃ l, hist ns2 x.n.a.ev.data.toList = l := ⟨_, rfl⟩
          have HF := Lib.hid hf
          have HL2 := Lib.hid hl
          have HCH : Hid (Chn l) := by rw [← hl]; exact HC2.out _
          have q2 : (fk != fk) = false := by simp
          clear hW hB hS hf hl
          go_wp2_with fail
          refine (Force_ S1 b ks q ns2 x.n.a.ev _ fx fk HF.out HN.out.al.ev (BA.out.below (by (repeat (first | exact Below.refl _ _ | assumption | refine below_drewN ?_ _ | refine Below.drew ?_ | refine Below.setCell ?_ (by first | omega | (simp; done) | (simp; omega)) _ | refine Below.alloc ?_ (by first | omega | (simp; done) | (simp; omega)) _))))).mono ?_
          rintro e wb ⟨A1, c1, rfl, ho1, hb⟩
          have HO1 := Lib.hid ho1
          have szb := hb.size
          have cb : ∀ o, wb.cell? ⟨nb, o, none⟩ = wr.cell? ⟨nb, o, none⟩ := fun o => (hb.cell (p := ⟨nb, o, none⟩) hnba).trans (ca o)
          have hnbb : nb < wb.heap.size := by omega
          have BB := Lib.hid (BA.out.below hb)
          have SB := Lib.hid (SA.out.below hb)
          have WB : Hid (Below wa.heap.size wa wb) := hb
          clear hb ho1
          go_wp2_with fail
          refine (rForce_ S2 y ks q ns2 x.n.a.ev fx fk _ HF.out (SB.out.below (by (repeat (first | exact Below.refl _ _ | assumption | refine below_drewN ?_ _ | refine Below.drew ?_ | refine Below.setCell ?_ (by first | omega | (simp; done) | (simp; omega)) _ | refine Below.alloc ?_ (by first | omega | (simp; done) | (simp; omega)) _))))).mono ?_
          rintro e wc ⟨A2, c2, rfl, hin2, hb⟩
          have szc := hb.size
          simp at szc
          have hbc : Below wb.heap.size wb wc := Below.trans (by (repeat (first | exact Below.refl _ _ | assumption | refine below_drewN ?_ _ | refine Below.drew ?_ | refine Below.setCell ?_ (by first | omega | (simp; done) | (simp; omega)) _ | refine Below.alloc ?_ (by first | omega | (simp; done) | (simp; omega)) _))) (hb.mono (by simp))
          have cc : ∀ o, wc.cell? ⟨nb, o, none⟩ = wr.cell? ⟨nb, o, none⟩ := fun o => (hbc.cell (p := ⟨nb, o, none⟩) hnbb).trans (cb o)
          have hnbc : nb < wc.heap.size := by omega
          have lb1 : wb.heap.size < wc.heap.size := by omega
          have lb2 : wb.heap.size < wb.heap.size + 1 := by omega
          have lb3 : wb.heap.size < wc.heap.size + 1 := by omega
          have lb4 : nb < wc.heap.size + 1 := by omega
          obtain ⟨hcwc, hfwc⟩ := bcell hb
          have I2 := Lib.hid hin2
          have I1 : Hid (AIn wc fx A1 c1) := (own_in hin2.ev HO1.out).below hbc
          have BC := Lib.hid (BB.out.below hbc)
          have SC := Lib.hid (SB.out.below hbc)
          have WC3 : Hid (Below wa.heap.size wa wc) := WB.out.trans (hbc.mono szb)
          clear hb hin2 hbc
          go_wp2_with fail
          have E0 : Below wc.heap.size wc (wc.alloc (.cells (fx.val A2 c2).cells 29)) := (Below.refl _ _).alloc (Nat.le_refl _) _
          have DC : Below (wc.heap.size + 1) (wc.alloc (.cells (fx.val A2 c2).cells 29)) (wc.alloc (.cells (fx.val A2 c2).cells 29)) := Below.refl _ _
          go_cut [149] (fun s149 wx => s149 = .bool false ∧ Below wc.heap.size wc wx)
          case first =>
            go_region_held3 (fun w' => ∀ b o, b < wc.heap.size + 1 → w'.cell? ⟨b, o, none⟩ = (wc.alloc (.cells (fx.val A2 c2).cells 29)).cell? ⟨b, o, none⟩) (first | exact kN | exact fun b o h => rfl)
              (first
              | (go_at_call 16; refine (same_is fx fx A1 c1 A2 c2 _ (I1.out.below (Below.trans E0 (Below.mono (Below.trans DC (by (repeat (first | exact Below.refl _ _ | assumption | refine below_drewN ?_ _ | refine Below.drew ?_ | refine Below.setCell ?_ (by first | omega | (simp; done) | (simp; omega)) _ | refine Below.alloc ?_ (by first | omega | (simp; done) | (simp; omega)) _)))) (Nat.le_succ _)))) (I2.out.below (Below.trans E0 (Below.mono (Below.trans DC (by (repeat (first | exact Below.refl _ _ | assumption | refine below_drewN ?_ _ | refine Below.drew ?_ | refine Below.setCell ?_ (by first | omega | (simp; done) | (simp; omega)) _ | refine Below.alloc ?_ (by first | omega | (simp; done) | (simp; omega)) _)))) (Nat.le_succ _)))) true (sameB_refl _)).mono ?_; rintro e wn ⟨rfl, hbn⟩; have sC := hbn.size; (try simp at sC); have DC := Below.trans DC (Below.trans (show Below (wc.heap.size + 1) _ _ from (by (repeat (first | exact Below.refl _ _ | assumption | refine below_drewN ?_ _ | refine Below.drew ?_ | refine Below.setCell ?_ (by first | omega | (simp; done) | (simp; omega)) _ | refine Below.alloc ?_ (by first | omega | (simp; done) | (simp; omega)) _)))) (hbn.mono (by first | omega | (simp; done) | (simp; omega)))); have kN := (fun b o (h : b < wc.heap.size + 1) => DC.cell (p := ⟨b, o, none⟩) h))
              | (go_at_call 31; refine (History_ S1 b ks q ns2 x.n.a.ev _ l HL2.out HCH.out (BC.out.below (Below.trans E0 (Below.mono (Below.trans DC (by (repeat (first | exact Below.refl _ _ | assumption | refine below_drewN ?_ _ | refine Below.drew ?_ | refine Below.setCell ?_ (by first | omega | (simp; done) | (simp; omega)) _ | refine Below.alloc ?_ (by first | omega | (simp; done) | (simp; omega)) _)))) (Nat.le_succ _))))).mono ?_; rintro e wn ⟨M1, P1, pc1, rfl, hM1, AX, hbn⟩; have sC := hbn.size; (try simp at sC); have DC := Below.trans DC (Below.trans (show Below (wc.heap.size + 1) _ _ from (by (repeat (first | exact Below.refl _ _ | assumption | refine below_drewN ?_ _ | refine Below.drew ?_ | refine Below.setCell ?_ (by first | omega | (simp; done) | (simp; omega)) _ | refine Below.alloc ?_ (by first | omega | (simp; done) | (simp; omega)) _)))) (hbn.mono (by first | omega | (simp; done) | (simp; omega)))); have kN := (fun b o (h : b < wc.heap.size + 1) => DC.cell (p := ⟨b, o, none⟩) h); (try (have YX := (Sl.below (Sl.below YX (by (repeat (first | exact Below.refl _ _ | assumption | refine below_drewN ?_ _ | refine Below.drew ?_ | refine Below.setCell ?_ (by first | omega | (simp; done) | (simp; omega)) _ | refine Below.alloc ?_ (by first | omega | (simp; done) | (simp; omega)) _)))) hbn).more hbn.size)); (try (have YA := fun z hz => AIn.below (AIn.below (YA z hz) (by (repeat (first | exact Below.refl _ _ | assumption | refine below_drewN ?_ _ | refine Below.drew ?_ | refine Below.setCell ?_ (by first | omega | (simp; done) | (simp; omega)) _ | refine Below.alloc ?_ (by first | omega | (simp; done) | (simp; omega)) _)))) hbn)))
              | (go_at_call 41; refine (rHistory_ S2 y ks q ns2 x.n.a.ev _ l HL2.out (SC.out.below (Below.trans E0 (Below.mono (Below.trans DC (by (repeat (first | exact Below.refl _ _ | assumption | refine below_drewN ?_ _ | refine Below.drew ?_ | refine Below.setCell ?_ (by first | omega | (simp; done) | (simp; omega)) _ | refine Below.alloc ?_ (by first | omega | (simp; done) | (simp; omega)) _)))) (Nat.le_succ _))))).mono ?_; rintro e wn ⟨F1, P2, pc2, hF1, rfl, YX, YA, hbn⟩; have sC := hbn.size; (try simp at sC); have DC := Below.trans DC (Below.trans (show Below (wc.heap.size + 1) _ _ from (by (repeat (first | exact Below.refl _ _ | assumption | refine below_drewN ?_ _ | refine Below.drew ?_ | refine Below.setCell ?_ (by first | omega | (simp; done) | (simp; omega)) _ | refine Below.alloc ?_ (by first | omega | (simp; done) | (simp; omega)) _)))) (hbn.mono (by first | omega | (simp; done) | (simp; omega)))); have kN := (fun b o (h : b < wc.heap.size + 1) => DC.cell (p := ⟨b, o, none⟩) h); (try (have AX := AsIn.below (AsIn.below AX (by (repeat (first | exact Below.refl _ _ | assumption | refine below_drewN ?_ _ | refine Below.drew ?_ | refine Below.setCell ?_ (by first | omega | (simp; done) | (simp; omega)) _ | refine Below.alloc ?_ (by first | omega | (simp; done) | (simp; omega)) _)))) hbn)))
              | (go_at_call 33; refine (sameAlerts_ M1 F1 P1 pc1 P2 pc2 _ _ _ rfl rfl AX.sl YX (fun z hz => AX.al hz) YA (hM1.trans hF1.symm)).mono ?_; rintro e wn ⟨rfl, hbn⟩; have sC := hbn.size; (try simp at sC); have DC := Below.trans DC (Below.trans (show Below (wc.heap.size + 1) _ _ from (by (repeat (first | exact Below.refl _ _ | assumption | refine below_drewN ?_ _ | refine Below.drew ?_ | refine Below.setCell ?_ (by first | omega | (simp; done) | (simp; omega)) _ | refine Below.alloc ?_ (by first | omega | (simp; done) | (simp; omega)) _)))) (hbn.mono (by first | omega | (simp; done) | (simp; omega)))); have kN := (fun b o (h : b < wc.heap.size + 1) => DC.cell (p := ⟨b, o, none⟩) h)))
            all_goals
              go_wp2_with fail
              go_meet
              case rel => exact ⟨rfl, Below.trans E0 (DC.mono (Nat.le_succ _))⟩
          case rest =>
            rename World => wd
            obtain ⟨rfl, hD⟩ := hcut
            have W9 : Hid (Below wa.heap.size wa wd) := WC3.out.trans (hD.mono WC3.out.size)
            clear hD
            go_wp2_with fail
            go_roundw
            case rel => exact ⟨k + 1, ns2, by omega, by go_num, Lib.hid (TA.out.below W9.out), HC2, Lib.hid (WA.out.trans (W9.out.mono sza)), by have := W9.out.size; omega⟩
            case measure => simp [intOf]; omega
      · obtain rfl : k = L.length := by omega
        obtain ⟨S1, S2, hB, hS, _⟩ := HB2.out
        have BA := Lib.hid hB
        have SA := Lib.hid hS
        obtain ⟨fx, fk, hf⟩ : ∃ fx fk, forceR ns [110, 111, 98, 111, 100, 121] = (fx, fk) := ⟨_, _, rfl⟩
        have HF := Lib.hid hf
        have q2 : (fk == fk) = true := by simp
        clear hB hS hf
        go_wp2_with fail
        refine (Force_ S1 b ks q ns ⟨#[110, 111, 98, 111, 100, 121]⟩ _ fx fk HF.out (by decide) (BA.out.below (by (repeat (first | exact Below.refl _ _ | assumption | refine below_drewN ?_ _ | refine Below.drew ?_ | refine Below.setCell ?_ (by first | omega | (simp; done) | (simp; omega)) _ | refine Below.alloc ?_ (by first | omega | (simp; done) | (simp; omega)) _))))).mono ?_
        rintro e wb ⟨A1, c1, rfl, ho1, hb⟩
        have HO1 := Lib.hid ho1
        have szb := hb.size
        have BB := Lib.hid (BA.out.below hb)
        have SB := Lib.hid (SA.out.below hb)
        have WB : Hid (Below wr.heap.size wr wb) := hb
        clear hb ho1
        go_wp2_with fail
        refine (rForce_ S2 y ks q ns ⟨#[110, 111, 98, 111, 100, 121]⟩ fx fk _ HF.out (SB.out.below (by (repeat (first | exact Below.refl _ _ | assumption | refine below_drewN ?_ _ | refine Below.drew ?_ | refine Below.setCell ?_ (by first | omega | (simp; done) | (simp; omega)) _ | refine Below.alloc ?_ (by first | omega | (simp; done) | (simp; omega)) _))))).mono ?_
        rintro e wc ⟨A2, c2, rfl, hin2, hb⟩
        have szc := hb.size
        simp at szc
        have hbc : Below wb.heap.size wb wc := Below.trans (by (repeat (first | exact Below.refl _ _ | assumption | refine below_drewN ?_ _ | refine Below.drew ?_ | refine Below.setCell ?_ (by first | omega | (simp; done) | (simp; omega)) _ | refine Below.alloc ?_ (by first | omega | (simp; done) | (simp; omega)) _))) (hb.mono (by simp))
        have lb1 : wb.heap.size < wc.heap.size := by omega
        have lb2 : wb.heap.size < wb.heap.size + 1 := by omega
        have lb3 : wb.heap.size < wc.heap.size + 1 := by omega
        obtain ⟨hcwc, hfwc⟩ := bcell hb
        have I2 := Lib.hid hin2
        have I1 : Hid (AIn wc fx A1 c1) := (own_in hin2.ev HO1.out).below hbc
        have BC := Lib.hid (BB.out.below hbc)
        have WC3 : Hid (Below w.heap.size w wc) := HW.out.trans ((WB.out.trans (hbc.mono szb)).mono hsz)
        obtain ⟨R9, K9, kc9, L9, N9, nc9, h9, hns9, _⟩ := SB.out.below hbc
        have y2 := h9.c2
        have hyc : y < wc.heap.size := h9.lt
        have hyc2 : y < wc.heap.size + 1 := by omega
        have HI9 : Hid (∀ z ∈ L9, NIn wc z.n z.A z.c z.S z.sc) := fun z hz => ⟨⟨okA_ev (h9.its z hz).ok, (h9.its z hz).cells.sl⟩, (h9.its z hz).sigs.sl⟩
        have HR9 := Lib.hid (Sl.of_own h9.row)
        have HN9 := Lib.hid hns9
        clear hb hin2 hbc h9 hns9
        go_wp2_with fail
        have E0 : Below wc.heap.size wc (wc.alloc (.cells (fx.val A2 c2).cells 29)) := (Below.refl _ _).alloc (Nat.le_refl _) _
        have DC : Below (wc.heap.size + 1) (wc.alloc (.cells (fx.val A2 c2).cells 29)) (wc.alloc (.cells (fx.val A2 c2).cells 29)) := Below.refl _ _
        go_region_held3 (fun w' => ∀ b o, b < wc.heap.size + 1 → w'.cell? ⟨b, o, none⟩ = (wc.alloc (.cells (fx.val A2 c2).cells 29)).cell? ⟨b, o, none⟩) (first | exact kN | exact fun b o h => rfl)
          (first
          | (go_at_call 16; refine (same_is fx fx A1 c1 A2 c2 _ (I1.out.below (Below.trans E0 (Below.mono (Below.trans DC (by (repeat (first | exact Below.refl _ _ | assumption | refine below_drewN ?_ _ | refine Below.drew ?_ | refine Below.setCell ?_ (by first | omega | (simp; done) | (simp; omega)) _ | refine Below.alloc ?_ (by first | omega | (simp; done) | (simp; omega)) _)))) (Nat.le_succ _)))) (I2.out.below (Below.trans E0 (Below.mono (Below.trans DC (by (repeat (first | exact Below.refl _ _ | assumption | refine below_drewN ?_ _ | refine Below.drew ?_ | refine Below.setCell ?_ (by first | omega | (simp; done) | (simp; omega)) _ | refine Below.alloc ?_ (by first | omega | (simp; done) | (simp; omega)) _)))) (Nat.le_succ _)))) true (sameB_refl _)).mono ?_; rintro e wn ⟨rfl, hbn⟩; have sC := hbn.size; (try simp at sC); have DC := Below.trans DC (Below.trans (show Below (wc.heap.size + 1) _ _ from (by (repeat (first | exact Below.refl _ _ | assumption | refine below_drewN ?_ _ | refine Below.drew ?_ | refine Below.setCell ?_ (by first | omega | (simp; done) | (simp; omega)) _ | refine Below.alloc ?_ (by first | omega | (simp; done) | (simp; omega)) _)))) (hbn.mono (by first | omega | (simp; done) | (simp; omega)))); have kN := (fun b o (h : b < wc.heap.size + 1) => DC.cell (p := ⟨b, o, none⟩) h))
          | (go_at_call 36; refine (Notices_ S1 b ks q ns _ (BC.out.below (Below.trans E0 (Below.mono (Below.trans DC (by (repeat (first | exact Below.refl _ _ | assumption | refine below_drewN ?_ _ | refine Below.drew ?_ | refine Below.setCell ?_ (by first | omega | (simp; done) | (simp; omega)) _ | refine Below.alloc ?_ (by first | omega | (simp; done) | (simp; omega)) _)))) (Nat.le_succ _))))).mono ?_; rintro e wn ⟨M1, P1, pc1, hM1, rfl, AX, AY, hbn⟩; have sC := hbn.size; (try simp at sC); have DC := Below.trans DC (Below.trans (show Below (wc.heap.size + 1) _ _ from (by (repeat (first | exact Below.refl _ _ | assumption | refine below_drewN ?_ _ | refine Below.drew ?_ | refine Below.setCell ?_ (by first | omega | (simp; done) | (simp; omega)) _ | refine Below.alloc ?_ (by first | omega | (simp; done) | (simp; omega)) _)))) (hbn.mono (by first | omega | (simp; done) | (simp; omega)))); have kN := (fun b o (h : b < wc.heap.size + 1) => DC.cell (p := ⟨b, o, none⟩) h))
          | (go_at_call 42; refine (sameNotices_ M1 L9 P1 pc1 N9 nc9 _ _ _ rfl rfl (Sl.of_own AX) ((HR9.out.below (Below.trans E0 (Below.mono (Below.trans DC (by (repeat (first | exact Below.refl _ _ | assumption | refine below_drewN ?_ _ | refine Below.drew ?_ | refine Below.setCell ?_ (by first | omega | (simp; done) | (simp; omega)) _ | refine Below.alloc ?_ (by first | omega | (simp; done) | (simp; omega)) _)))) (Nat.le_succ _)))).more (by first | omega | (simp; done) | (simp; omega))) (fun z hz => ⟨⟨notice_ev hM1 HN9.out HI9.out hz, (AY z hz).1.sl⟩, (AY z hz).2.sl⟩) (fun z hz => (HI9.out z hz).below (Below.trans E0 (Below.mono (Below.trans DC (by (repeat (first | exact Below.refl _ _ | assumption | refine below_drewN ?_ _ | refine Below.drew ?_ | refine Below.setCell ?_ (by first | omega | (simp; done) | (simp; omega)) _ | refine Below.alloc ?_ (by first | omega | (simp; done) | (simp; omega)) _)))) (Nat.le_succ _)))) (hM1.trans HN9.out.symm)).mono ?_; rintro e wn ⟨rfl, hbn⟩; have sC := hbn.size; (try simp at sC); have DC := Below.trans DC (Below.trans (show Below (wc.heap.size + 1) _ _ from (by (repeat (first | exact Below.refl _ _ | assumption | refine below_drewN ?_ _ | refine Below.drew ?_ | refine Below.setCell ?_ (by first | omega | (simp; done) | (simp; omega)) _ | refine Below.alloc ?_ (by first | omega | (simp; done) | (simp; omega)) _)))) (hbn.mono (by first | omega | (simp; done) | (simp; omega)))); have kN := (fun b o (h : b < wc.heap.size + 1) => DC.cell (p := ⟨b, o, none⟩) h))
          | (go_at_call 13; refine (works_ _ (HR.out.below (Below.trans WC3.out (Below.mono (Below.trans E0 (Below.mono (Below.trans DC (by (repeat (first | exact Below.refl _ _ | assumption | refine below_drewN ?_ _ | refine Below.drew ?_ | refine Below.setCell ?_ (by first | omega | (simp; done) | (simp; omega)) _ | refine Below.alloc ?_ (by first | omega | (simp; done) | (simp; omega)) _)))) (Nat.le_succ _))) WC3.out.size)))).mono ?_; rintro e wn ⟨rfl, hbn⟩; have sC := hbn.size; (try simp at sC); have DC := Below.trans DC (Below.trans (show Below (wc.heap.size + 1) _ _ from (by (repeat (first | exact Below.refl _ _ | assumption | refine below_drewN ?_ _ | refine Below.drew ?_ | refine Below.setCell ?_ (by first | omega | (simp; done) | (simp; omega)) _ | refine Below.alloc ?_ (by first | omega | (simp; done) | (simp; omega)) _)))) (hbn.mono (by first | omega | (simp; done) | (simp; omega)))); have kN := (fun b o (h : b < wc.heap.size + 1) => DC.cell (p := ⟨b, o, none⟩) h)))
        all_goals
          go_wp2_with fail
          go_ret
          exact ⟨rfl, WC3.out.trans ((Below.trans E0 (DC.mono (Nat.le_succ _))).mono WC3.out.size)⟩
  · have ho' : rollOk ks q = false := by simpa using ho
    have HO := Lib.hid ho'
    clear ho ho'
    go_enter Tryd.func8, Tryd.ntmps8
    go_wp2_with fail
    refine (post_nil _).mono ?_
    rintro e w1 ⟨rfl, hb⟩
    have Hw1 : Hid (Below w.heap.size w w1) := (show Below w.heap.size w _ from (by repeat (first | exact Below.refl _ _ | assumption | refine below_drewN ?_ _ | refine Below.drew ?_ | refine Below.setCell ?_ (by first | omega | (simp; done) | (simp; omega)) _ | refine Below.alloc ?_ (by first | omega | (simp; done) | (simp; omega)) _))).trans (hb.mono (by simp))
    have u0w1 : w1.cell? ⟨w.heap.size, 0, none⟩ = some (.slice K ks.length kc) := by rw [hb.cell (p := ⟨w.heap.size, 0, none⟩) (by simp)]; simp [go_sem]
    have u1w1 : w1.cell? ⟨w.heap.size, 1, none⟩ = some (.int .i64 q) := by rw [hb.cell (p := ⟨w.heap.size, 1, none⟩) (by simp)]; simp [go_sem]
    have lww1 : w.heap.size < w1.heap.size := by have := hb.size; simp at this; omega
    clear hb
    go_wp2_with fail
    refine (post_zero w1.heap.size _ (by simp [go_sem]) (by simp)).mono ?_
    rintro e w2 ⟨rfl, hb⟩
    have Hw2 : Hid (Below w.heap.size w w2) := (show Below w.heap.size w _ from (by repeat (first | exact Below.refl _ _ | exact (Hw1).out | refine below_drewN ?_ _ | refine Below.drew ?_ | refine Below.setCell ?_ (by first | omega | (simp; done) | (simp; omega)) _ | refine Below.alloc ?_ (by first | omega | (simp; done) | (simp; omega)) _))).trans (hb.mono (by first | omega | (simp; done) | (simp; omega)))
    have zw2 : w1.heap.size ≤ w2.heap.size := by have := hb.size; (try simp at this); omega
    have u0w2 : w2.cell? ⟨w.heap.size, 0, none⟩ = some (.slice K ks.length kc) := by rw [hb.cell (p := ⟨w.heap.size, 0, none⟩) (by first | (simp; done) | (simp; omega))]; first | (simp [go_sem, u0w1]; done) | simp [go_sem, u0w1, lww1]
    have u1w2 : w2.cell? ⟨w.heap.size, 1, none⟩ = some (.int .i64 q) := by rw [hb.cell (p := ⟨w.heap.size, 1, none⟩) (by first | (simp; done) | (simp; omega))]; first | (simp [go_sem, u1w1]; done) | simp [go_sem, u1w1, lww1]
    have lww2 : w.heap.size < w2.heap.size := by omega
    clear u0w1 u1w1 lww1
    clear hb
    go_wp2_with fail
    refine (notices_nil _).mono ?_
    rintro e w3 ⟨rfl, hb⟩
    have Hw3 : Hid (Below w.heap.size w w3) := (show Below w.heap.size w _ from (by repeat (first | exact Below.refl _ _ | exact (Hw2).out | refine below_drewN ?_ _ | refine Below.drew ?_ | refine Below.setCell ?_ (by first | omega | (simp; done) | (simp; omega)) _ | refine Below.alloc ?_ (by first | omega | (simp; done) | (simp; omega)) _))).trans (hb.mono (by first | omega | (simp; done) | (simp; omega)))
    have zw3 : w2.heap.size ≤ w3.heap.size := by have := hb.size; (try simp at this); omega
    have u0w3 : w3.cell? ⟨w.heap.size, 0, none⟩ = some (.slice K ks.length kc) := by rw [hb.cell (p := ⟨w.heap.size, 0, none⟩) (by first | (simp; done) | (simp; omega))]; first | (simp [go_sem, u0w2]; done) | simp [go_sem, u0w2, lww2]
    have u1w3 : w3.cell? ⟨w.heap.size, 1, none⟩ = some (.int .i64 q) := by rw [hb.cell (p := ⟨w.heap.size, 1, none⟩) (by first | (simp; done) | (simp; omega))]; first | (simp [go_sem, u1w2]; done) | simp [go_sem, u1w2, lww2]
    have lww3 : w.heap.size < w3.heap.size := by omega
    clear u0w2 u1w2 lww2
    clear hb
    go_wp2_with fail
    refine (history_nil ⟨#[120]⟩ _).mono ?_
    rintro e w4 ⟨rfl, hb⟩
    have Hw4 : Hid (Below w.heap.size w w4) := (show Below w.heap.size w _ from (by repeat (first | exact Below.refl _ _ | exact (Hw3).out | refine below_drewN ?_ _ | refine Below.drew ?_ | refine Below.setCell ?_ (by first | omega | (simp; done) | (simp; omega)) _ | refine Below.alloc ?_ (by first | omega | (simp; done) | (simp; omega)) _))).trans (hb.mono (by first | omega | (simp; done) | (simp; omega)))
    have zw4 : w3.heap.size ≤ w4.heap.size := by have := hb.size; (try simp at this); omega
    have u0w4 : w4.cell? ⟨w.heap.size, 0, none⟩ = some (.slice K ks.length kc) := by rw [hb.cell (p := ⟨w.heap.size, 0, none⟩) (by first | (simp; done) | (simp; omega))]; first | (simp [go_sem, u0w3]; done) | simp [go_sem, u0w3, lww3]
    have u1w4 : w4.cell? ⟨w.heap.size, 1, none⟩ = some (.int .i64 q) := by rw [hb.cell (p := ⟨w.heap.size, 1, none⟩) (by first | (simp; done) | (simp; omega))]; first | (simp [go_sem, u1w3]; done) | simp [go_sem, u1w3, lww3]
    have lww4 : w.heap.size < w4.heap.size := by omega
    clear u0w3 u1w3 lww3
    clear hb
    go_wp2_with fail
    refine (force_zero w4.heap.size ⟨#[120]⟩ _ (by simp [go_sem]) (by simp)).mono ?_
    rintro e w5 ⟨A5, c5, rfl, ho5, hb⟩
    have HA5 : Hid (AIn w5 Al.zero A5 c5) := own_in (by decide) ho5
    clear ho5
    have Hw5 : Hid (Below w.heap.size w w5) := (show Below w.heap.size w _ from (by repeat (first | exact Below.refl _ _ | exact (Hw4).out | refine below_drewN ?_ _ | refine Below.drew ?_ | refine Below.setCell ?_ (by first | omega | (simp; done) | (simp; omega)) _ | refine Below.alloc ?_ (by first | omega | (simp; done) | (simp; omega)) _))).trans (hb.mono (by first | omega | (simp; done) | (simp; omega)))
    have zw5 : w4.heap.size ≤ w5.heap.size := by have := hb.size; (try simp at this); omega
    have u0w5 : w5.cell? ⟨w.heap.size, 0, none⟩ = some (.slice K ks.length kc) := by rw [hb.cell (p := ⟨w.heap.size, 0, none⟩) (by first | (simp; done) | (simp; omega))]; first | (simp [go_sem, u0w4]; done) | simp [go_sem, u0w4, lww4]
    have u1w5 : w5.cell? ⟨w.heap.size, 1, none⟩ = some (.int .i64 q) := by rw [hb.cell (p := ⟨w.heap.size, 1, none⟩) (by first | (simp; done) | (simp; omega))]; first | (simp [go_sem, u1w4]; done) | simp [go_sem, u1w4, lww4]
    have lww5 : w.heap.size < w5.heap.size := by omega
    clear u0w4 u1w4 lww4
    clear hb
    go_wp2_with fail
    refine (same_is Al.zero Al.zero A5 c5 none 0 _ (HA5.out.below (by (repeat (first | exact Below.refl _ _ | assumption | refine below_drewN ?_ _ | refine Below.drew ?_ | refine Below.setCell ?_ (by first | omega | (simp; done) | (simp; omega)) _ | refine Below.alloc ?_ (by first | omega | (simp; done) | (simp; omega)) _)))) (zero_in _) true (sameB_refl _)).mono ?_
    rintro e w6 ⟨rfl, hb⟩
    clear HA5
    have Hw6 : Hid (Below w.heap.size w w6) := (show Below w.heap.size w _ from (by repeat (first | exact Below.refl _ _ | exact (Hw5).out | refine below_drewN ?_ _ | refine Below.drew ?_ | refine Below.setCell ?_ (by first | omega | (simp; done) | (simp; omega)) _ | refine Below.alloc ?_ (by first | omega | (simp; done) | (simp; omega)) _))).trans (hb.mono (by first | omega | (simp; done) | (simp; omega)))
    have zw6 : w5.heap.size ≤ w6.heap.size := by have := hb.size; (try simp at this); omega
    have u0w6 : w6.cell? ⟨w.heap.size, 0, none⟩ = some (.slice K ks.length kc) := by rw [hb.cell (p := ⟨w.heap.size, 0, none⟩) (by first | (simp; done) | (simp; omega))]; first | (simp [go_sem, u0w5]; done) | simp [go_sem, u0w5, lww5]
    have u1w6 : w6.cell? ⟨w.heap.size, 1, none⟩ = some (.int .i64 q) := by rw [hb.cell (p := ⟨w.heap.size, 1, none⟩) (by first | (simp; done) | (simp; omega))]; first | (simp [go_sem, u1w5]; done) | simp [go_sem, u1w5, lww5]
    have lww6 : w.heap.size < w6.heap.size := by omega
    clear u0w5 u1w5 lww5
    clear hb
    go_wp2_with fail
    refine (newBoard_f ks q K kc _ (Rin.below HR0.out (by repeat (first | exact Below.refl _ _ | exact (Hw6).out | refine below_drewN ?_ _ | refine Below.drew ?_ | refine Below.setCell ?_ (by first | omega | (simp; done) | (simp; omega)) _ | refine Below.alloc ?_ (by first | omega | (simp; done) | (simp; omega)) _))) HO.out).mono ?_
    rintro e w7 ⟨rfl, hb⟩
    have Hw7 : Hid (Below w.heap.size w w7) := (show Below w.heap.size w _ from (by repeat (first | exact Below.refl _ _ | exact (Hw6).out | refine below_drewN ?_ _ | refine Below.drew ?_ | refine Below.setCell ?_ (by first | omega | (simp; done) | (simp; omega)) _ | refine Below.alloc ?_ (by first | omega | (simp; done) | (simp; omega)) _))).trans (hb.mono (by first | omega | (simp; done) | (simp; omega)))
    have zw7 : w6.heap.size ≤ w7.heap.size := by have := hb.size; (try simp at this); omega
    have u0w7 : w7.cell? ⟨w.heap.size, 0, none⟩ = some (.slice K ks.length kc) := by rw [hb.cell (p := ⟨w.heap.size, 0, none⟩) (by first | (simp; done) | (simp; omega))]; first | (simp [go_sem, u0w6]; done) | simp [go_sem, u0w6, lww6]
    have u1w7 : w7.cell? ⟨w.heap.size, 1, none⟩ = some (.int .i64 q) := by rw [hb.cell (p := ⟨w.heap.size, 1, none⟩) (by first | (simp; done) | (simp; omega))]; first | (simp [go_sem, u1w6]; done) | simp [go_sem, u1w6, lww6]
    have lww7 : w.heap.size < w7.heap.size := by omega
    clear u0w6 u1w6 lww6
    clear hb
    go_wp2_with fail
    refine (rnewBoard_f ks q K kc _ (Rin.below HR0.out (by repeat (first | exact Below.refl _ _ | exact (Hw7).out | refine below_drewN ?_ _ | refine Below.drew ?_ | refine Below.setCell ?_ (by first | omega | (simp; done) | (simp; omega)) _ | refine Below.alloc ?_ (by first | omega | (simp; done) | (simp; omega)) _))) HO.out).mono ?_
    rintro e w8 ⟨rfl, hb⟩
    have Hw8 : Hid (Below w.heap.size w w8) := (show Below w.heap.size w _ from (by repeat (first | exact Below.refl _ _ | exact (Hw7).out | refine below_drewN ?_ _ | refine Below.drew ?_ | refine Below.setCell ?_ (by first | omega | (simp; done) | (simp; omega)) _ | refine Below.alloc ?_ (by first | omega | (simp; done) | (simp; omega)) _))).trans (hb.mono (by first | omega | (simp; done) | (simp; omega)))
    have zw8 : w7.heap.size ≤ w8.heap.size := by have := hb.size; (try simp at this); omega
    have u0w8 : w8.cell? ⟨w.heap.size, 0, none⟩ = some (.slice K ks.length kc) := by rw [hb.cell (p := ⟨w.heap.size, 0, none⟩) (by first | (simp; done) | (simp; omega))]; first | (simp [go_sem, u0w7]; done) | simp [go_sem, u0w7, lww7]
    have u1w8 : w8.cell? ⟨w.heap.size, 1, none⟩ = some (.int .i64 q) := by rw [hb.cell (p := ⟨w.heap.size, 1, none⟩) (by first | (simp; done) | (simp; omega))]; first | (simp [go_sem, u1w7]; done) | simp [go_sem, u1w7, lww7]
    have lww8 : w.heap.size < w8.heap.size := by omega
    clear u0w7 u1w7 lww7
    clear hb
    go_wp2_with fail
    refine (works_ _ (HR.out.below (by repeat (first | exact Below.refl _ _ | exact (Hw8).out | refine below_drewN ?_ _ | refine Below.drew ?_ | refine Below.setCell ?_ (by first | omega | (simp; done) | (simp; omega)) _ | refine Below.alloc ?_ (by first | omega | (simp; done) | (simp; omega)) _)))).mono ?_
    rintro e w9 ⟨rfl, hb⟩
    have Hw9 : Hid (Below w.heap.size w w9) := (show Below w.heap.size w _ from (by repeat (first | exact Below.refl _ _ | exact (Hw8).out | refine below_drewN ?_ _ | refine Below.drew ?_ | refine Below.setCell ?_ (by first | omega | (simp; done) | (simp; omega)) _ | refine Below.alloc ?_ (by first | omega | (simp; done) | (simp; omega)) _))).trans (hb.mono (by first | omega | (simp; done) | (simp; omega)))
    go_wp2_with fail
    go_ret
    exact ⟨rfl, Hw9.out⟩
end Go.Proofs.YtohfofecbdfkgaaDoor

namespace Go.Proofs.YtohfofecbdfkgaaDoor
open Go.RowKit Go.ChangeShapes Go.WideShapes Go.ChangeAt Al

set_option maxRecDepth 100000 in
theorem alertBoards_contract (H : Type) (enc : TypeId × Value → H) (W : World) (base : Nat) (args : Array Value) (ds gs : List (DataW H)) (before : List MemPlace)
    (hval : ∀ (j : Nat) t v, Tryd.f8.params[j]? = some t → args[j]? = some v → Value.okWide Tryd.prog W .any base t v)
    (hW : DataW.Whole enc Tryd.prog Tryd.f8.params.toList Rows.alertBoardsSpec.vars false W args.toList ds gs before)
    (hwt : (DataW.weightsEach Tryd.prog Tryd.f8.params.toList ds).all (· ≤ reachBytes) = true) (hL : laidMetH Tryd.prog Rows.alertBoardsRow.laid W) :
    Calls Tryd.prog 8 args W fun e W' => ∃ v, e = .returned v ∧ Rows.alertBoardsSpec.post enc Tryd.prog Tryd.f8 false true false false W args v W' := by
  have hlt : ∀ x ∈ before, x.block < W.heap.size := fun x hx => hW.lt x hx
  have hW' := hW
  obtain ⟨p, q, hA0, hV, rfl, _, _⟩ := hW
  have hA : DataW.TrodAll enc Tryd.prog W 0 (fun _ => true) true Tryd.f8.params.toList args.toList ds p := hA0
  have hrdy : Rdy W := rdyOf hL
  obtain ⟨rfl, rfl⟩ := trodVars_none hV
  rw [Tryd.params8] at hA hval hwt
  have rd : ∀ (j : Nat) (t : TypeId) (v : Value), ([24, 66] : List TypeId)[j]? = some t → args.toList[j]? = some v → Rdg enc W W.heap.size t v.cells.toList := fun j t v h1 h2 =>
    rdgOf hA (fun x hx => hlt x (List.mem_append.2 (.inl hx))) hwt h1 h2
  obtain ⟨v0, vs0, d0, ds0, p0, q0, e0, rfl, rfl, h0, r0⟩ := trodAll_cons hA
  obtain ⟨v1, vs1, d1, ds1, p1, q1, e1, rfl, rfl, h1, r1⟩ := trodAll_cons r0
  obtain ⟨rfl, rfl, rfl⟩ := trodAll_nil r1
  obtain rfl : args = #[v0, v1] := by cases args; simp_all
  have walk : Calls Tryd.prog 8 #[v0, v1] W fun e w' => e = .returned (.bool true) ∧ Below W.heap.size W w' := by
    obtain ⟨c0, hc0, _⟩ := okWide_struct Tryd.underlying24 (hval 0 24 v0 rfl rfl)
    obtain ⟨N, n, nc, hc1⟩ := okWide_slice Tryd.underlying66 (hval 1 66 v1 rfl rfl)
    obtain ⟨K, kc, ks, qq, hk, hks⟩ := roll_open (rd 0 24 v0 rfl rfl)
    obtain ⟨N', nc', L, hn, hl, hbytes, hL⟩ := ntcs_open (rd 1 66 v1 rfl rfl)
    subst hc0 hc1
    have e0 : c0 = #[.slice K ks.length kc, .int .i64 qq] := by rw [← Array.toList_inj]; exact hk
    subst e0
    obtain ⟨rfl, rfl, rfl⟩ : N = N' ∧ n = L.length ∧ nc = nc' := by have h : [Value.slice N n nc] = [Value.slice N' L.length nc'] := hn; simpa using h
    exact lboards_ ks qq K kc L N nc W hks hl hL (by omega) hrdy
  refine walk.mono fun e W' ⟨he, hb⟩ => ?_
  subst he
  exact ⟨_, rfl, lawPost hW' rfl (by kernel_rfl) rfl (by rw [Tryd.params8]; intro t ht; simp at ht; rcases ht with rfl | rfl <;> exact ⟨by kernel_rfl, of_decide_eq_true (by kernel_rfl)⟩) hb⟩

theorem alertBoards_reads (os : Os) {H : Type} (enc : TypeId × Value → H) : ∃ places, DataW.whole enc Tryd.prog ((laidWorld os).forCall (fun _ _ => 0) ⟨#[], #[.agg #[.slice none 0 0, .int .i64 0], .slice none 0 0], []⟩).memory Tryd.f8.params.toList Rows.alertBoardsSpec.vars false (#[.agg #[.slice none 0 0, .int .i64 0], .slice none 0 0] : Array Value).toList 8 = some ([.agg [.nil, .lit (.int .i64 0)], .nil], [], places) :=
  ⟨[], by kernel_rfl⟩
set_option maxRecDepth 100000 in
theorem alertBoards_lifted (os : Os) (started : os.Started) (H : Type) (enc : TypeId × Value → H) (F : Stop.Interp) :
    ReturnsInHanded {} Tryd.checked os 8 .any ((OpenSpec.ofChange Rows.alertBoardsSpec).preRow enc Tryd.prog Tryd.f8 Rows.alertBoardsRow.domain false Rows.alertBoardsRow.laid) (((OpenSpec.ofChange Rows.alertBoardsSpec).at F).post enc Tryd.prog Tryd.f8 false true false false) := by
  obtain ⟨places, hx⟩ := alertBoards_reads os enc
  refine returnsInHanded_of_row (C := Tryd.checked) (s := OpenSpec.ofChange Rows.alertBoardsSpec) own started (by kernel_rfl) Tryd.func8
    (witness_row_at (enc := enc) (C := Tryd.checked) false (laidWorld os) #[.agg #[.slice none 0 0, .int .i64 0], .slice none 0 0] rfl (by kernel_rfl) (by kernel_rfl) (by kernel_rfl)
      (OpenSpec.preRow_of_cond 8 hx (by kernel_rfl) (fun k hk => by cases hk) (by kernel_rfl) (laid_met os _))) ?_
  intro W base args ds gs before hval hW _ _ hwt hL _ _
  refine alertBoards_contract H enc W base args ds gs before hval hW ?_ hL
  have hgs : gs = [] := by
    obtain ⟨p, q, _, hV, _⟩ := hW
    exact (trodVars_none hV).1
  subst hgs
  have hw2 : (DataW.weightsEach Tryd.prog (Tryd.f8.params.toList ++ []) (ds ++ [])).all (· ≤ reachBytes) = true := hwt
  rw [List.append_nil, List.append_nil] at hw2
  exact hw2
theorem alertBoards_said : Rows.AlertBoardsSaid :=
  OpenClaim.holds_of_cond 8 Tryd.f8 rfl rfl rfl rfl rfl rfl rfl ⟨rfl, rfl, rfl, rfl, rfl⟩ rfl rfl rfl rfl rfl (by kernel_rfl) Tryd.func8 (by kernel_rfl)
    (of_decide_eq_true (by kernel_rfl)) (by unfold Func.isWrapper; first | (rw [if_pos (by decide +kernel)]; kernel_rfl) | (rw [if_neg (by decide +kernel)]; exact ⟨rfl, rfl⟩))
    (fun os started H enc _ F => by rw [OpenClaim.pre_eq_preRow]; exact alertBoards_lifted os started H enc F)
theorem alertBoards_plain (f : FuncId) (fn : Func) (hf : Tryd.pinned.checked.prog.funcNamed "ringdown/ringdownlaw10.AlertBoards" = some f) (hfn : Tryd.pinned.checked.prog.funcs[f]? = some fn) :
    false = Tryd.pinned.checked.prog.looks [] ∧ ∀ (j : Nat) t, fn.params[j]? = some t → Tryd.pinned.checked.prog.wantsStandIn t = false := by
  obtain rfl : f = 8 := Option.some.inj ((show Tryd.prog.funcNamed "ringdown/ringdownlaw10.AlertBoards" = some 8 by kernel_rfl).symm.trans hf) |>.symm
  obtain rfl : fn = Tryd.f8 := (Option.some.inj (Tryd.func8.symm.trans hfn)).symm
  refine ⟨by kernel_rfl, fun j t ht => ?_⟩
  rw [Tryd.params8] at ht
  have := Array.mem_of_getElem? ht
  simp at this
  rcases this with rfl | rfl
  · exact (show Tryd.prog.wantsStandIn 24 = false by kernel_rfl)
  · exact (show Tryd.prog.wantsStandIn 66 = false by kernel_rfl)
/-- The law's card. -/
theorem alertBoards_card : Rows.AlertBoardsCardSaid :=
  Claim7.holds_tied_plain_at .later [] _ _ _ _ alertBoards_said (fun _ h => by cases h) (by kernel_rfl) (fun _ h => by cases h) alertBoards_row_tie rfl ⟨rfl, rfl⟩ (by kernel_rfl) rfl alertBoards_plain (by kernel_rfl)
end Go.Proofs.YtohfofecbdfkgaaDoor
