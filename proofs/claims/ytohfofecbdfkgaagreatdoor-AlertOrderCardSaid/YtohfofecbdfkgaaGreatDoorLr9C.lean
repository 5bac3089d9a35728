/-
  AlertOrder: for every roll, notices and order: how events stand, and who signed two ways, is the same for the notices in another order, with some that are there twice and one that is not valid; and the chapter's examples hold. No condition beyond the row's own (the listed tables of the library, tied by the card).
-/
import Derived.Test.YtohfofecbdfkgaaGreatDoorU10
import Derived.Test.YtohfofecbdfkgaaGreatDoorU15
import Derived.Test.YtohfofecbdfkgaaGreatDoorU30
import Derived.Test.YtohfofecbdfkgaaGreatDoorU31
import Derived.Test.YtohfofecbdfkgaaGreatDoorV03Lr9
import Derived.Test.YtohfofecbdfkgaaGreatDoorV02Lr9
import Derived.Deep.RegionHeld3
namespace Go.Proofs.YtohfofecbdfkgaaGreatDoor
open Go.RowKit Go.ChangeShapes Go.WideShapes Go.ChangeAt Al

set_option maxRecDepth 100000 in
set_option maxHeartbeats 8000000 in
theorem lorder_ (ks : List (Int × Int)) (q : Int) (K : Option Addr) (kc : Nat) (L : List It) (N : Option Addr) (nc : Nat) (ord : List Int) (O : Option Addr) (oc : Nat) (w : World) (hr0 : Rin w ks K kc) (hL : Sl w w.heap.size 10 N L.length nc (itCells L)) (hI : ∀ x ∈ L, NIn w x.n x.A x.c x.S x.sc) (hO : Sl w w.heap.size 1 O ord.length oc (ints ord)) (hlen : L.length * 120 ≤ 140737488355328) (hr : Rdy w) :
    Calls Tryz.prog 6 #[rollV ks K kc q, .slice N L.length nc, .slice O ord.length oc] w fun e w' => e = .returned (.bool true) ∧ Below w.heap.size w w' := by
  have HR0 : Hid (∀ W, Below w.heap.size w W → Rin W ks K kc) := fun W hW => hr0.below hW
  have HL : Hid (∀ W, Below w.heap.size w W → Sl W W.heap.size 10 N L.length nc (itCells L)) := fun W hW => (hL.below hW).more hW.size
  have HI : Hid (∀ W, Below w.heap.size w W → ∀ x ∈ L, NIn W x.n x.A x.c x.S x.sc) := fun W hW x hx => (hI x hx).below hW
  have HR : Hid (∀ W, Below w.heap.size w W → Rdy W) := fun W hW => hr.below hW
  have HSH : Hid (∀ W, Below w.heap.size w W → Calls Tryz.prog 28 #[.slice N L.length nc, .slice O ord.length oc] W (OwnSh L W)) := fun W hW => shuffled_ L N nc ord O oc W ((hL.below hW).more hW.size) (fun x hx => (hI x hx).below hW) ((hO.below hW).more hW.size) hlen
  obtain ⟨l, hl⟩ := err_settle ks q L
  obtain ⟨m, hm⟩ := err_forks ks q L
  obtain ⟨k, hk⟩ : ∃ k, manyE ks q L.length = k := ⟨_, rfl⟩
  rw [hk] at hl hm
  have HS := Lib.hid hl
  have HF := Lib.hid hm
  have HSX : Hid (∀ X, Shuf L X → settleR ks q X = (l, k)) := fun X hX => by rw [hX.settle]; exact hl
  have HFX : Hid (∀ X, Shuf L X → forksR ks q X = (m, k)) := fun X hX => by rw [hX.forks]; exact hm
  have q2 : (k == k) = true := by simp
  clear hr0 hL hI hO hr hl hm hk
  go_enter Tryz.func6, Tryz.ntmps6
  go_wp2_with fail
  refine (settle_ ks q K kc L N nc l k _ HS.out (HR0.out _ (by (repeat (first | exact Below.refl _ _ | assumption | refine below_drewN ?_ _ | refine Below.drew ?_ | refine Below.setCell ?_ (by first | omega | (simp; done) | (simp; omega)) _ | refine Below.alloc ?_ (by first | omega | (simp; done) | (simp; omega)) _)))) (HR.out _ (by (repeat (first | exact Below.refl _ _ | assumption | refine below_drewN ?_ _ | refine Below.drew ?_ | refine Below.setCell ?_ (by first | omega | (simp; done) | (simp; omega)) _ | refine Below.alloc ?_ (by first | omega | (simp; done) | (simp; omega)) _)))) (HL.out _ (by (repeat (first | exact Below.refl _ _ | assumption | refine below_drewN ?_ _ | refine Below.drew ?_ | refine Below.setCell ?_ (by first | omega | (simp; done) | (simp; omega)) _ | refine Below.alloc ?_ (by first | omega | (simp; done) | (simp; omega)) _)))) (HI.out _ (by (repeat (first | exact Below.refl _ _ | assumption | refine below_drewN ?_ _ | refine Below.drew ?_ | refine Below.setCell ?_ (by first | omega | (simp; done) | (simp; omega)) _ | refine Below.alloc ?_ (by first | omega | (simp; done) | (simp; omega)) _)))) (by omega)).mono ?_
  rintro e w1 ⟨A1, c1, rfl, o1, hb⟩
  have sz1 := hb.size
  simp at sz1
  have Ww1 : Hid (Below w.heap.size w w1) := (show Below w.heap.size w _ from by (repeat (first | exact Below.refl _ _ | assumption | refine below_drewN ?_ _ | refine Below.drew ?_ | refine Below.setCell ?_ (by first | omega | (simp; done) | (simp; omega)) _ | refine Below.alloc ?_ (by first | omega | (simp; done) | (simp; omega)) _))).trans (hb.mono (by simp))
  have u0 : w1.cell? ⟨w.heap.size, 0, none⟩ = some (.slice K ks.length kc) := by rw [hb.cell (p := ⟨w.heap.size, 0, none⟩) (by simp)]; simp [go_sem]
  have u1 : w1.cell? ⟨w.heap.size, 1, none⟩ = some (.int .i64 q) := by rw [hb.cell (p := ⟨w.heap.size, 1, none⟩) (by simp)]; simp [go_sem]
  have lw : w.heap.size < w1.heap.size := by omega
  have R1 := Lib.hid (Sl.of_own o1)
  clear hb o1
  go_wp2_with fail
  have DC : Below w1.heap.size w1 w1 := Below.refl _ _
  go_region_held3 (fun w' => ∀ b o, b < w1.heap.size → w'.cell? ⟨b, o, none⟩ = w1.cell? ⟨b, o, none⟩) (first | exact kN | exact fun b o h => rfl)
    (first
    | (go_at_call 28; refine (HSH.out _ (Ww1.out.trans (Below.mono (Below.trans DC (by (repeat (first | exact Below.refl _ _ | assumption | refine below_drewN ?_ _ | refine Below.drew ?_ | refine Below.setCell ?_ (by first | omega | (simp; done) | (simp; omega)) _ | refine Below.alloc ?_ (by first | omega | (simp; done) | (simp; omega)) _)))) Ww1.out.size))).mono ?_; rintro e wn ⟨X, XA, Xc, hx, rfl, hs, hi, hbn⟩; have HX := Lib.hid hx; have HXS := Lib.hid hs; have HXI := Lib.hid hi; have sC := hbn.size; (try simp at sC); have DC := Below.trans DC (Below.trans (show Below w1.heap.size _ _ from (by (repeat (first | exact Below.refl _ _ | assumption | refine below_drewN ?_ _ | refine Below.drew ?_ | refine Below.setCell ?_ (by first | omega | (simp; done) | (simp; omega)) _ | refine Below.alloc ?_ (by first | omega | (simp; done) | (simp; omega)) _)))) (hbn.mono (by first | omega | (simp; done) | (simp; omega)))); have kN := (fun b o (h : b < w1.heap.size) => DC.cell (p := ⟨b, o, none⟩) h); clear hbn; clear hx hs hi)
    | (go_at_call 12; refine (settle_ ks q K kc X XA Xc l k _ (HSX.out X HX.out) (HR0.out _ (Ww1.out.trans (Below.mono (Below.trans DC (by (repeat (first | exact Below.refl _ _ | assumption | refine below_drewN ?_ _ | refine Below.drew ?_ | refine Below.setCell ?_ (by first | omega | (simp; done) | (simp; omega)) _ | refine Below.alloc ?_ (by first | omega | (simp; done) | (simp; omega)) _)))) Ww1.out.size))) (HR.out _ (Ww1.out.trans (Below.mono (Below.trans DC (by (repeat (first | exact Below.refl _ _ | assumption | refine below_drewN ?_ _ | refine Below.drew ?_ | refine Below.setCell ?_ (by first | omega | (simp; done) | (simp; omega)) _ | refine Below.alloc ?_ (by first | omega | (simp; done) | (simp; omega)) _)))) Ww1.out.size))) (Sl.belowT HXS.out (by (repeat (first | exact Below.refl _ _ | assumption | refine below_drewN ?_ _ | refine Below.drew ?_ | refine Below.setCell ?_ (by first | omega | (simp; done) | (simp; omega)) _ | refine Below.alloc ?_ (by first | omega | (simp; done) | (simp; omega)) _)))) (fun z hz => (HXI.out z hz).below (by (repeat (first | exact Below.refl _ _ | assumption | refine below_drewN ?_ _ | refine Below.drew ?_ | refine Below.setCell ?_ (by first | omega | (simp; done) | (simp; omega)) _ | refine Below.alloc ?_ (by first | omega | (simp; done) | (simp; omega)) _)))) (by rcases HX.out.len with h1 | ⟨h1, _⟩ <;> omega)).mono ?_; rintro e wn ⟨A2, c2, rfl, o2, hbn⟩; have R2 := Lib.hid (Sl.of_own o2); have sC := hbn.size; (try simp at sC); have DC := Below.trans DC (Below.trans (show Below w1.heap.size _ _ from (by (repeat (first | exact Below.refl _ _ | assumption | refine below_drewN ?_ _ | refine Below.drew ?_ | refine Below.setCell ?_ (by first | omega | (simp; done) | (simp; omega)) _ | refine Below.alloc ?_ (by first | omega | (simp; done) | (simp; omega)) _)))) (hbn.mono (by first | omega | (simp; done) | (simp; omega)))); have kN := (fun b o (h : b < w1.heap.size) => DC.cell (p := ⟨b, o, none⟩) h); clear hbn; clear o2))
  all_goals
    have Ww2 : Hid (Below w.heap.size w wn) := Ww1.out.trans (DC.mono Ww1.out.size)
    have R1 := Lib.hid (R1.out.belowT DC)
    have u0 := (DC.cell (p := ⟨w.heap.size, 0, none⟩) lw).trans u0
    have u1 := (DC.cell (p := ⟨w.heap.size, 1, none⟩) lw).trans u1
    have lw : w.heap.size < wn.heap.size := by have := DC.size; omega
    clear DC kN HX HXS HXI
    obtain ⟨w2, hw2⟩ : ∃ w2, w2 = wn := ⟨_, rfl⟩
    rw [← hw2] at Ww2 R1 R2 u0 u1 lw
    rw [← hw2]
    clear hw2
    go_wp2_with (go_at_call 25; refine (forks_ ks q K kc L N nc m k _ HF.out (HR0.out _ Ww2.out) (HR.out _ Ww2.out) (HL.out _ Ww2.out) (HI.out _ Ww2.out) (by omega)).mono ?_; rintro e w4 ⟨G4, A4, c4, g4, rfl, o4, i4, hb⟩; have sz4 := hb.size; have Ww4 : Hid (Below w.heap.size w w4) := Ww2.out.trans (hb.mono Ww2.out.size); have R1 := Lib.hid (R1.out.belowT hb); have R2 := Lib.hid (R2.out.belowT hb); have u0 := (hb.cell (p := ⟨w.heap.size, 0, none⟩) lw).trans u0; have u1 := (hb.cell (p := ⟨w.heap.size, 1, none⟩) lw).trans u1; have lw : w.heap.size < w4.heap.size := (by omega); have R4 := Lib.hid (Sl.of_own o4); have I4 := Lib.hid i4; have G4e := Lib.hid g4; clear hb o4 i4 g4)
    have DC : Below w4.heap.size w4 w4 := Below.refl _ _
    go_region_held3 (fun w' => ∀ b o, b < w4.heap.size → w'.cell? ⟨b, o, none⟩ = w4.cell? ⟨b, o, none⟩) (first | exact kN | exact fun b o h => rfl)
      (first
      | (go_at_call 28; refine (HSH.out _ (Ww4.out.trans (Below.mono (Below.trans DC (by (repeat (first | exact Below.refl _ _ | assumption | refine below_drewN ?_ _ | refine Below.drew ?_ | refine Below.setCell ?_ (by first | omega | (simp; done) | (simp; omega)) _ | refine Below.alloc ?_ (by first | omega | (simp; done) | (simp; omega)) _)))) Ww4.out.size))).mono ?_; rintro e wn ⟨Y, YA, Yc, hx, rfl, hs, hi, hbn⟩; have HX := Lib.hid hx; have HXS := Lib.hid hs; have HXI := Lib.hid hi; have sC := hbn.size; (try simp at sC); have DC := Below.trans DC (Below.trans (show Below w4.heap.size _ _ from (by (repeat (first | exact Below.refl _ _ | assumption | refine below_drewN ?_ _ | refine Below.drew ?_ | refine Below.setCell ?_ (by first | omega | (simp; done) | (simp; omega)) _ | refine Below.alloc ?_ (by first | omega | (simp; done) | (simp; omega)) _)))) (hbn.mono (by first | omega | (simp; done) | (simp; omega)))); have kN := (fun b o (h : b < w4.heap.size) => DC.cell (p := ⟨b, o, none⟩) h); clear hbn; clear hx hs hi)
      | (go_at_call 25; refine (forks_ ks q K kc Y YA Yc m k _ (HFX.out Y HX.out) (HR0.out _ (Ww4.out.trans (Below.mono (Below.trans DC (by (repeat (first | exact Below.refl _ _ | assumption | refine below_drewN ?_ _ | refine Below.drew ?_ | refine Below.setCell ?_ (by first | omega | (simp; done) | (simp; omega)) _ | refine Below.alloc ?_ (by first | omega | (simp; done) | (simp; omega)) _)))) Ww4.out.size))) (HR.out _ (Ww4.out.trans (Below.mono (Below.trans DC (by (repeat (first | exact Below.refl _ _ | assumption | refine below_drewN ?_ _ | refine Below.drew ?_ | refine Below.setCell ?_ (by first | omega | (simp; done) | (simp; omega)) _ | refine Below.alloc ?_ (by first | omega | (simp; done) | (simp; omega)) _)))) Ww4.out.size))) (Sl.belowT HXS.out (by (repeat (first | exact Below.refl _ _ | assumption | refine below_drewN ?_ _ | refine Below.drew ?_ | refine Below.setCell ?_ (by first | omega | (simp; done) | (simp; omega)) _ | refine Below.alloc ?_ (by first | omega | (simp; done) | (simp; omega)) _)))) (fun z hz => (HXI.out z hz).below (by (repeat (first | exact Below.refl _ _ | assumption | refine below_drewN ?_ _ | refine Below.drew ?_ | refine Below.setCell ?_ (by first | omega | (simp; done) | (simp; omega)) _ | refine Below.alloc ?_ (by first | omega | (simp; done) | (simp; omega)) _)))) (by rcases HX.out.len with h1 | ⟨h1, _⟩ <;> omega)).mono ?_; rintro e wn ⟨G5, A5, c5, g5, rfl, o5, i5, hbn⟩; have R5 := Lib.hid (Sl.of_own o5); have I5 := Lib.hid i5; have G5e := Lib.hid g5; have sC := hbn.size; (try simp at sC); have DC := Below.trans DC (Below.trans (show Below w4.heap.size _ _ from (by (repeat (first | exact Below.refl _ _ | assumption | refine below_drewN ?_ _ | refine Below.drew ?_ | refine Below.setCell ?_ (by first | omega | (simp; done) | (simp; omega)) _ | refine Below.alloc ?_ (by first | omega | (simp; done) | (simp; omega)) _)))) (hbn.mono (by first | omega | (simp; done) | (simp; omega)))); have kN := (fun b o (h : b < w4.heap.size) => DC.cell (p := ⟨b, o, none⟩) h); clear hbn; clear o5 i5 g5))
    all_goals
      have Ww5 : Hid (Below w.heap.size w wn) := Ww4.out.trans (DC.mono Ww4.out.size)
      have R1 := Lib.hid (R1.out.belowT DC)
      have R2 := Lib.hid (R2.out.belowT DC)
      have R4 := Lib.hid (R4.out.belowT DC)
      have I4 : Hid (∀ x ∈ G4, Sl wn wn.heap.size 1 x.A x.f.who.length x.c (ints x.f.who)) := fun x hx => (I4.out x hx).belowT DC
      clear DC kN HX HXS HXI u0 u1
      obtain ⟨w5, hw5⟩ : ∃ w5, w5 = wn := ⟨_, rfl⟩
      rw [← hw5] at Ww5 R1 R2 R4 I4 R5 I5
      rw [← hw5]
      clear hw5
      go_wp2_with (first
        | (go_at_call 22; refine (sameStandings_ l A1 c1 A2 c2 w5 R1.out R2.out).mono ?_; rintro e w6 ⟨rfl, hb⟩; have Ww6 : Hid (Below w.heap.size w w6) := Ww5.out.trans (hb.mono Ww5.out.size); have R4 := Lib.hid (R4.out.belowT hb); have I4 : Hid (∀ x ∈ G4, Sl w6 w6.heap.size 1 x.A x.f.who.length x.c (ints x.f.who)) := (fun x hx => (I4.out x hx).belowT hb); have R5 := Lib.hid (R5.out.belowT hb); have I5 : Hid (∀ x ∈ G5, Sl w6 w6.heap.size 1 x.A x.f.who.length x.c (ints x.f.who)) := (fun x hx => (I5.out x hx).belowT hb); clear hb)
        | (go_at_call 27; refine (sameForks_ G4 G5 A4 c4 A5 c5 w6 (G4e.out.trans G5e.out.symm) R4.out R5.out I4.out I5.out).mono ?_; rintro e w7 ⟨rfl, hb⟩; have Ww7 : Hid (Below w.heap.size w w7) := Ww6.out.trans (hb.mono Ww6.out.size); clear hb)
        | (go_at_call 13; refine (works_ w7 (HR.out _ Ww7.out)).mono ?_; rintro e w8 ⟨rfl, hb⟩; have Ww8 : Hid (Below w.heap.size w w8) := Ww7.out.trans (hb.mono Ww7.out.size); clear hb))
      go_ret
      exact ⟨rfl, Ww8.out⟩

set_option maxRecDepth 100000 in
theorem alertOrder_contract (H : Type) (enc : TypeId × Value → H) (W : World) (base : Nat) (args : Array Value) (ds gs : List (DataW H)) (before : List MemPlace)
    (hval : ∀ (j : Nat) t v, Tryz.f6.params[j]? = some t → args[j]? = some v → Value.okWide Tryz.prog W .any base t v)
    (hW : DataW.Whole enc Tryz.prog Tryz.f6.params.toList Rows.alertOrderSpec.vars false W args.toList ds gs before)
    (hwt : (DataW.weightsEach Tryz.prog Tryz.f6.params.toList ds).all (· ≤ reachBytes) = true) (hL : laidMetH Tryz.prog Rows.alertOrderRow.laid W) :
    Calls Tryz.prog 6 args W fun e W' => ∃ v, e = .returned v ∧ Rows.alertOrderSpec.post enc Tryz.prog Tryz.f6 false true false false W args v W' := by
  have hlt : ∀ x ∈ before, x.block < W.heap.size := fun x hx => hW.lt x hx
  have hW' := hW
  obtain ⟨p, q, hA0, hV, rfl, _, _⟩ := hW
  have hA : DataW.TrodAll enc Tryz.prog W 0 (fun _ => true) true Tryz.f6.params.toList args.toList ds p := hA0
  have hrdy : Rdy W := rdyOf hL
  obtain ⟨rfl, rfl⟩ := trodVars_none hV
  rw [Tryz.params6] at hA hval hwt
  have rd : ∀ (j : Nat) (t : TypeId) (v : Value), ([24, 25, 39] : List TypeId)[j]? = some t → args.toList[j]? = some v → Rdg enc W W.heap.size t v.cells.toList := fun j t v h1 h2 =>
    rdgOf hA (fun x hx => hlt x (List.mem_append.2 (.inl hx))) hwt h1 h2
  obtain ⟨v0, vs0, d0, ds0, p0, q0, e0, rfl, rfl, h0, r0⟩ := trodAll_cons hA
  obtain ⟨v1, vs1, d1, ds1, p1, q1, e1, rfl, rfl, h1, r1⟩ := trodAll_cons r0
  obtain ⟨v2, vs2, d2, ds2, p2, q2, e2, rfl, rfl, h2, r2⟩ := trodAll_cons r1
  obtain ⟨rfl, rfl, rfl⟩ := trodAll_nil r2
  obtain rfl : args = #[v0, v1, v2] := by cases args; simp_all
  have walk : Calls Tryz.prog 6 #[v0, v1, v2] W fun e w' => e = .returned (.bool true) ∧ Below W.heap.size W w' := by
    obtain ⟨c0, hc0, _⟩ := okWide_struct Tryz.underlying24 (hval 0 24 v0 rfl rfl)
    obtain ⟨N, n, nc, hc1⟩ := okWide_slice Tryz.underlying25 (hval 1 25 v1 rfl rfl)
    obtain ⟨O, on, oc, hc2⟩ := okWide_slice Tryz.underlying39 (hval 2 39 v2 rfl rfl)
    obtain ⟨K, kc, ks, qq, hk, hks⟩ := roll_open (rd 0 24 v0 rfl rfl)
    obtain ⟨N', nc', L, hn, hl, hbytes, hL⟩ := ntcs_open (rd 1 25 v1 rfl rfl)
    obtain ⟨O', oc', ord, ho, hos, _, _⟩ := ints_open (rd 2 39 v2 rfl rfl)
    subst hc0 hc1 hc2
    have e0 : c0 = #[.slice K ks.length kc, .int .i64 qq] := by rw [← Array.toList_inj]; exact hk
    subst e0
    obtain ⟨rfl, rfl, rfl⟩ : N = N' ∧ n = L.length ∧ nc = nc' := by have h : [Value.slice N n nc] = [Value.slice N' L.length nc'] := hn; simpa using h
    obtain ⟨rfl, rfl, rfl⟩ : O = O' ∧ on = ord.length ∧ oc = oc' := by have h : [Value.slice O on oc] = [Value.slice O' ord.length oc'] := ho; simpa using h
    exact lorder_ ks qq K kc L N nc ord O oc W hks hl (fun x hx => ⟨⟨(hL x hx).ev, (hL x hx).cells⟩, (hL x hx).sigs⟩) hos hbytes hrdy
  refine walk.mono fun e W' ⟨he, hb⟩ => ?_
  subst he
  exact ⟨_, rfl, lawPost hW' rfl (by kernel_rfl) rfl (by rw [Tryz.params6]; intro t ht; simp at ht; rcases ht with rfl | rfl | rfl <;> exact ⟨by kernel_rfl, of_decide_eq_true (by kernel_rfl)⟩) hb⟩

theorem alertOrder_reads (os : Os) {H : Type} (enc : TypeId × Value → H) : ∃ places, DataW.whole enc Tryz.prog ((laidWorld os).forCall (fun _ _ => 0) ⟨#[], #[.agg #[.slice none 0 0, .int .i64 0], .slice none 0 0, .slice none 0 0], []⟩).memory Tryz.f6.params.toList Rows.alertOrderSpec.vars false (#[.agg #[.slice none 0 0, .int .i64 0], .slice none 0 0, .slice none 0 0] : Array Value).toList 8 = some ([.agg [.nil, .lit (.int .i64 0)], .nil, .nil], [], places) :=
  ⟨[], by kernel_rfl⟩
set_option maxRecDepth 100000 in
theorem alertOrder_lifted (os : Os) (started : os.Started) (H : Type) (enc : TypeId × Value → H) (F : Stop.Interp) :
    ReturnsInHanded {} Tryz.checked os 6 .any ((OpenSpec.ofChange Rows.alertOrderSpec).preRow enc Tryz.prog Tryz.f6 Rows.alertOrderRow.domain false Rows.alertOrderRow.laid) (((OpenSpec.ofChange Rows.alertOrderSpec).at F).post enc Tryz.prog Tryz.f6 false true false false) := by
  obtain ⟨places, hx⟩ := alertOrder_reads os enc
  refine returnsInHanded_of_row (C := Tryz.checked) (s := OpenSpec.ofChange Rows.alertOrderSpec) own started (by kernel_rfl) Tryz.func6
    (witness_row_at (enc := enc) (C := Tryz.checked) false (laidWorld os) #[.agg #[.slice none 0 0, .int .i64 0], .slice none 0 0, .slice none 0 0] rfl (by kernel_rfl) (by kernel_rfl) (by kernel_rfl)
      (OpenSpec.preRow_of_cond 8 hx (by kernel_rfl) (fun k hk => by cases hk) (by kernel_rfl) (laid_met os _))) ?_
  intro W base args ds gs before hval hW _ _ hwt hL _ _
  refine alertOrder_contract H enc W base args ds gs before hval hW ?_ hL
  have hgs : gs = [] := by
    obtain ⟨p, q, _, hV, _⟩ := hW
    exact (trodVars_none hV).1
  subst hgs
  have hw2 : (DataW.weightsEach Tryz.prog (Tryz.f6.params.toList ++ []) (ds ++ [])).all (· ≤ reachBytes) = true := hwt
  rw [List.append_nil, List.append_nil] at hw2
  exact hw2
theorem alertOrder_said : Rows.AlertOrderSaid :=
  OpenClaim.holds_of_cond 6 Tryz.f6 rfl rfl rfl rfl rfl rfl rfl ⟨rfl, rfl, rfl, rfl, rfl⟩ rfl rfl rfl rfl rfl (by kernel_rfl) Tryz.func6 (by kernel_rfl)
    (of_decide_eq_true (by kernel_rfl)) (by unfold Func.isWrapper; first | (rw [if_pos (by decide +kernel)]; kernel_rfl) | (rw [if_neg (by decide +kernel)]; exact ⟨rfl, rfl⟩))
    (fun os started H enc _ F => by rw [OpenClaim.pre_eq_preRow]; exact alertOrder_lifted os started H enc F)
theorem alertOrder_plain (f : FuncId) (fn : Func) (hf : Tryz.pinned.checked.prog.funcNamed "ringdown/ringdownlaw10.AlertOrder" = some f) (hfn : Tryz.pinned.checked.prog.funcs[f]? = some fn) :
    true = Tryz.pinned.checked.prog.looks [] ∧ ∀ (j : Nat) t, fn.params[j]? = some t → Tryz.pinned.checked.prog.wantsStandIn t = false := by
  obtain rfl : f = 6 := Option.some.inj ((show Tryz.prog.funcNamed "ringdown/ringdownlaw10.AlertOrder" = some 6 by kernel_rfl).symm.trans hf) |>.symm
  obtain rfl : fn = Tryz.f6 := (Option.some.inj (Tryz.func6.symm.trans hfn)).symm
  refine ⟨by kernel_rfl, fun j t ht => ?_⟩
  rw [Tryz.params6] at ht
  have := Array.mem_of_getElem? ht
  simp at this
  rcases this with rfl | rfl | rfl
  · exact (show Tryz.prog.wantsStandIn 24 = false by kernel_rfl)
  · exact (show Tryz.prog.wantsStandIn 25 = false by kernel_rfl)
  · exact (show Tryz.prog.wantsStandIn 39 = false by kernel_rfl)
/-- The law's card. -/
theorem alertOrder_card : Rows.AlertOrderCardSaid :=
  Claim7.holds_tied_plain_at .later [] _ _ _ _ alertOrder_said (fun _ h => by cases h) (by kernel_rfl) (fun _ h => by cases h) alertOrder_row_tie rfl ⟨rfl, rfl⟩ (by kernel_rfl) rfl alertOrder_plain (by kernel_rfl)
end Go.Proofs.YtohfofecbdfkgaaGreatDoor
