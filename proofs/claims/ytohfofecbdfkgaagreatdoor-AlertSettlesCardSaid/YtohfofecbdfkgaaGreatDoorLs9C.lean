/-
  AlertSettles: for every roll and notices Settle and Forks return what the chapter says, and the chapter's examples hold. No condition beyond the row's own (the listed tables of the library, tied by the card).
-/
import Derived.Test.YtohfofecbdfkgaaGreatDoorU10
import Derived.Test.YtohfofecbdfkgaaGreatDoorU15
import Derived.Test.YtohfofecbdfkgaaGreatDoorU30
import Derived.Test.YtohfofecbdfkgaaGreatDoorU31
namespace Go.Proofs.YtohfofecbdfkgaaGreatDoor
open Go.RowKit Go.ChangeShapes Go.WideShapes Go.ChangeAt Al

set_option maxRecDepth 100000 in
set_option maxHeartbeats 4000000 in
theorem lsettles_ (ks : List (Int × Int)) (q : Int) (K : Option Addr) (kc : Nat) (L : List It) (N : Option Addr) (nc : Nat) (w : World) (hr0 : Rin w ks K kc) (hL : Sl w w.heap.size 10 N L.length nc (itCells L)) (hI : ∀ x ∈ L, NIn w x.n x.A x.c x.S x.sc) (hlen : L.length ≤ 1152921504606846976) (hr : Rdy w) :
    Calls Tryz.prog 5 #[rollV ks K kc q, .slice N L.length nc] w fun e w' => e = .returned (.bool true) ∧ Below w.heap.size w w' := by
  have HR0 := Lib.hid hr0
  have HL := Lib.hid hL
  have HI : Hid (∀ W, Below w.heap.size w W → ∀ x ∈ L, NIn W x.n x.A x.c x.S x.sc) := fun W hW x hx => (hI x hx).below hW
  have HR := Lib.hid hr
  obtain ⟨l, k, hlk⟩ : ∃ l k, settleR ks q L = (l, k) := ⟨_, _, rfl⟩
  obtain ⟨m, j, hmj⟩ : ∃ m j, forksR ks q L = (m, j) := ⟨_, _, rfl⟩
  have HS := Lib.hid hlk
  have HF := Lib.hid hmj
  have q1 : (k != k) = false := by simp
  have q2 : (j == j) = true := by simp
  clear hr0 hL hI hr hlk hmj
  go_enter Tryz.func5, Tryz.ntmps5
  go_wp2_with fail
  refine (settle_ ks q K kc L N nc l k _ HS.out (HR0.out.below (show Below w.heap.size w _ from by (repeat (first | exact Below.refl _ _ | assumption | refine below_drewN ?_ _ | refine Below.drew ?_ | refine Below.setCell ?_ (by first | omega | (simp; done) | (simp; omega)) _ | refine Below.alloc ?_ (by first | omega | (simp; done) | (simp; omega)) _)))) (HR.out.below (show Below w.heap.size w _ from by (repeat (first | exact Below.refl _ _ | assumption | refine below_drewN ?_ _ | refine Below.drew ?_ | refine Below.setCell ?_ (by first | omega | (simp; done) | (simp; omega)) _ | refine Below.alloc ?_ (by first | omega | (simp; done) | (simp; omega)) _)))) ((HL.out.below (show Below w.heap.size w _ from by (repeat (first | exact Below.refl _ _ | assumption | refine below_drewN ?_ _ | refine Below.drew ?_ | refine Below.setCell ?_ (by first | omega | (simp; done) | (simp; omega)) _ | refine Below.alloc ?_ (by first | omega | (simp; done) | (simp; omega)) _)))).more (show Below w.heap.size w _ from by (repeat (first | exact Below.refl _ _ | assumption | refine below_drewN ?_ _ | refine Below.drew ?_ | refine Below.setCell ?_ (by first | omega | (simp; done) | (simp; omega)) _ | refine Below.alloc ?_ (by first | omega | (simp; done) | (simp; omega)) _))).size) (HI.out _ (show Below w.heap.size w _ from by (repeat (first | exact Below.refl _ _ | assumption | refine below_drewN ?_ _ | refine Below.drew ?_ | refine Below.setCell ?_ (by first | omega | (simp; done) | (simp; omega)) _ | refine Below.alloc ?_ (by first | omega | (simp; done) | (simp; omega)) _)))) hlen).mono ?_
  rintro e w1 ⟨A1, c1, rfl, o1, hb⟩
  have szw1 := hb.size
  simp at szw1
  have Ww1 : Hid (Below w.heap.size w w1) := (show Below w.heap.size w _ from (by repeat (first | exact Below.refl _ _ | assumption | refine below_drewN ?_ _ | refine Below.drew ?_ | refine Below.setCell ?_ (by first | omega | (simp; done) | (simp; omega)) _ | refine Below.alloc ?_ (by first | omega | (simp; done) | (simp; omega)) _))).trans (hb.mono (by simp))
  have u0 : w1.cell? ⟨w.heap.size, 0, none⟩ = some (.slice K ks.length kc) := by rw [hb.cell (p := ⟨w.heap.size, 0, none⟩) (by simp)]; simp [go_sem]
  have u1 : w1.cell? ⟨w.heap.size, 1, none⟩ = some (.int .i64 q) := by rw [hb.cell (p := ⟨w.heap.size, 1, none⟩) (by simp)]; simp [go_sem]
  have lw : w.heap.size < w1.heap.size := by omega
  have R1 := Lib.hid (Sl.of_own o1)
  clear hb o1
  go_wp2_with fail
  refine (rSettle_ ks q K kc L N nc l k _ HS.out (HR0.out.below Ww1.out) ((HL.out.below Ww1.out).more Ww1.out.size) (HI.out _ Ww1.out) hlen).mono ?_
  rintro e w2 ⟨A2, c2, rfl, o2, hb⟩
  have szw2 := hb.size
  have Ww2 : Hid (Below w.heap.size w w2) := Ww1.out.trans (hb.mono Ww1.out.size)
  have u0 := (hb.cell (p := ⟨w.heap.size, 0, none⟩) (by show w.heap.size < _; omega)).trans u0
  have u1 := (hb.cell (p := ⟨w.heap.size, 1, none⟩) (by show w.heap.size < _; omega)).trans u1
  have lw : w.heap.size < w2.heap.size := by omega
  have R1 := Lib.hid (R1.out.belowT hb)
  have R2 := Lib.hid (Sl.of_own o2)
  clear hb o2
  go_wp2_with (first
    | (go_at_call 22; refine (sameStandings_ l A1 c1 A2 c2 w2 R1.out R2.out).mono ?_; rintro e w3 ⟨rfl, hb⟩; have szw3 := hb.size; have Ww3 : Hid (Below w.heap.size w w3) := Ww2.out.trans (hb.mono Ww2.out.size); have u0 := (hb.cell (p := ⟨w.heap.size, 0, none⟩) (by show w.heap.size < _; omega)).trans u0; have u1 := (hb.cell (p := ⟨w.heap.size, 1, none⟩) (by show w.heap.size < _; omega)).trans u1; have lw : w.heap.size < w3.heap.size := (by omega); clear hb)
    | (go_at_call 25; refine (forks_ ks q K kc L N nc m j _ HF.out (HR0.out.below Ww3.out) (HR.out.below Ww3.out) ((HL.out.below Ww3.out).more Ww3.out.size) (HI.out _ Ww3.out) hlen).mono ?_; rintro e w4 ⟨G4, A4, c4, g4, rfl, o4, i4, hb⟩; have sz4 := hb.size; have Ww4 : Hid (Below w.heap.size w w4) := Ww3.out.trans (hb.mono Ww3.out.size); have u0 := (hb.cell (p := ⟨w.heap.size, 0, none⟩) (by show w.heap.size < _; omega)).trans u0; have u1 := (hb.cell (p := ⟨w.heap.size, 1, none⟩) (by show w.heap.size < _; omega)).trans u1; have lw : w.heap.size < w4.heap.size := (by omega); have R4 := Lib.hid (Sl.of_own o4); have I4 := Lib.hid i4; have G4e := Lib.hid g4; clear hb o4 i4 g4)
    | (go_at_call 26; refine (rForks_ ks q K kc L N nc m j _ HF.out (HR0.out.below Ww4.out) ((HL.out.below Ww4.out).more Ww4.out.size) (HI.out _ Ww4.out) hlen).mono ?_; rintro e w5 ⟨G5, A5, c5, g5, rfl, o5, i5, hb⟩; have sz5 := hb.size; have Ww5 : Hid (Below w.heap.size w w5) := Ww4.out.trans (hb.mono Ww4.out.size); have R4 := Lib.hid (R4.out.belowT hb); have I4 : Hid (∀ x ∈ G4, Sl w5 w5.heap.size 1 x.A x.f.who.length x.c (ints x.f.who)) := (fun x hx => (I4.out x hx).belowT hb); have R5 := Lib.hid (Sl.of_own o5); have I5 := Lib.hid i5; have G5e := Lib.hid g5; clear hb o5 i5 g5)
    | (go_at_call 27; refine (sameForks_ G4 G5 A4 c4 A5 c5 w5 (G4e.out.trans G5e.out.symm) R4.out R5.out I4.out I5.out).mono ?_; rintro e w6 ⟨rfl, hb⟩; have sz6 := hb.size; have Ww6 : Hid (Below w.heap.size w w6) := Ww5.out.trans (hb.mono Ww5.out.size); clear hb)
    | (go_at_call 13; refine (works_ w6 (HR.out.below Ww6.out)).mono ?_; rintro e w7 ⟨rfl, hb⟩; have Ww7 : Hid (Below w.heap.size w w7) := Ww6.out.trans (hb.mono Ww6.out.size); clear hb))
  go_ret
  exact ⟨rfl, Ww7.out⟩

set_option maxRecDepth 100000 in
theorem alertSettles_contract (H : Type) (enc : TypeId × Value → H) (W : World) (base : Nat) (args : Array Value) (ds gs : List (DataW H)) (before : List MemPlace)
    (hval : ∀ (j : Nat) t v, Tryz.f5.params[j]? = some t → args[j]? = some v → Value.okWide Tryz.prog W .any base t v)
    (hW : DataW.Whole enc Tryz.prog Tryz.f5.params.toList Rows.alertSettlesSpec.vars false W args.toList ds gs before)
    (hwt : (DataW.weightsEach Tryz.prog Tryz.f5.params.toList ds).all (· ≤ reachBytes) = true) (hL : laidMetH Tryz.prog Rows.alertSettlesRow.laid W) :
    Calls Tryz.prog 5 args W fun e W' => ∃ v, e = .returned v ∧ Rows.alertSettlesSpec.post enc Tryz.prog Tryz.f5 false true false false W args v W' := by
  have hlt : ∀ x ∈ before, x.block < W.heap.size := fun x hx => hW.lt x hx
  have hW' := hW
  obtain ⟨p, q, hA0, hV, rfl, _, _⟩ := hW
  have hA : DataW.TrodAll enc Tryz.prog W 0 (fun _ => true) true Tryz.f5.params.toList args.toList ds p := hA0
  have hrdy : Rdy W := rdyOf hL
  obtain ⟨rfl, rfl⟩ := trodVars_none hV
  rw [Tryz.params5] at hA hval hwt
  have rd : ∀ (j : Nat) (t : TypeId) (v : Value), ([24, 25] : List TypeId)[j]? = some t → args.toList[j]? = some v → Rdg enc W W.heap.size t v.cells.toList := fun j t v h1 h2 =>
    rdgOf hA (fun x hx => hlt x (List.mem_append.2 (.inl hx))) hwt h1 h2
  obtain ⟨v0, vs0, d0, ds0, p0, q0, e0, rfl, rfl, h0, r0⟩ := trodAll_cons hA
  obtain ⟨v1, vs1, d1, ds1, p1, q1, e1, rfl, rfl, h1, r1⟩ := trodAll_cons r0
  obtain ⟨rfl, rfl, rfl⟩ := trodAll_nil r1
  obtain rfl : args = #[v0, v1] := by cases args; simp_all
  have walk : Calls Tryz.prog 5 #[v0, v1] W fun e w' => e = .returned (.bool true) ∧ Below W.heap.size W w' := by
    obtain ⟨c0, hc0, _⟩ := okWide_struct Tryz.underlying24 (hval 0 24 v0 rfl rfl)
    obtain ⟨N, n, nc, hc1⟩ := okWide_slice Tryz.underlying25 (hval 1 25 v1 rfl rfl)
    obtain ⟨K, kc, ks, qq, hk, hks⟩ := roll_open (rd 0 24 v0 rfl rfl)
    obtain ⟨N', nc', L, hn, hl, hbytes, hL⟩ := ntcs_open (rd 1 25 v1 rfl rfl)
    subst hc0 hc1
    have e0 : c0 = #[.slice K ks.length kc, .int .i64 qq] := by rw [← Array.toList_inj]; exact hk
    subst e0
    obtain ⟨rfl, rfl, rfl⟩ : N = N' ∧ n = L.length ∧ nc = nc' := by have h : [Value.slice N n nc] = [Value.slice N' L.length nc'] := hn; simpa using h
    exact lsettles_ ks qq K kc L N nc W hks hl (fun x hx => ⟨⟨(hL x hx).ev, (hL x hx).cells⟩, (hL x hx).sigs⟩) (by omega) hrdy
  refine walk.mono fun e W' ⟨he, hb⟩ => ?_
  subst he
  exact ⟨_, rfl, lawPost hW' rfl (by kernel_rfl) rfl (by rw [Tryz.params5]; intro t ht; simp at ht; rcases ht with rfl | rfl <;> exact ⟨by kernel_rfl, of_decide_eq_true (by kernel_rfl)⟩) hb⟩

theorem alertSettles_reads (os : Os) {H : Type} (enc : TypeId × Value → H) : ∃ places, DataW.whole enc Tryz.prog ((laidWorld os).forCall (fun _ _ => 0) ⟨#[], #[.agg #[.slice none 0 0, .int .i64 0], .slice none 0 0], []⟩).memory Tryz.f5.params.toList Rows.alertSettlesSpec.vars false (#[.agg #[.slice none 0 0, .int .i64 0], .slice none 0 0] : Array Value).toList 8 = some ([.agg [.nil, .lit (.int .i64 0)], .nil], [], places) :=
  ⟨[], by kernel_rfl⟩
set_option maxRecDepth 100000 in
theorem alertSettles_lifted (os : Os) (started : os.Started) (H : Type) (enc : TypeId × Value → H) (F : Stop.Interp) :
    ReturnsInHanded {} Tryz.checked os 5 .any ((OpenSpec.ofChange Rows.alertSettlesSpec).preRow enc Tryz.prog Tryz.f5 Rows.alertSettlesRow.domain false Rows.alertSettlesRow.laid) (((OpenSpec.ofChange Rows.alertSettlesSpec).at F).post enc Tryz.prog Tryz.f5 false true false false) := by
  obtain ⟨places, hx⟩ := alertSettles_reads os enc
  refine returnsInHanded_of_row (C := Tryz.checked) (s := OpenSpec.ofChange Rows.alertSettlesSpec) own started (by kernel_rfl) Tryz.func5
    (witness_row_at (enc := enc) (C := Tryz.checked) false (laidWorld os) #[.agg #[.slice none 0 0, .int .i64 0], .slice none 0 0] rfl (by kernel_rfl) (by kernel_rfl) (by kernel_rfl)
      (OpenSpec.preRow_of_cond 8 hx (by kernel_rfl) (fun k hk => by cases hk) (by kernel_rfl) (laid_met os _))) ?_
  intro W base args ds gs before hval hW _ _ hwt hL _ _
  refine alertSettles_contract H enc W base args ds gs before hval hW ?_ hL
  have hgs : gs = [] := by
    obtain ⟨p, q, _, hV, _⟩ := hW
    exact (trodVars_none hV).1
  subst hgs
  have hw2 : (DataW.weightsEach Tryz.prog (Tryz.f5.params.toList ++ []) (ds ++ [])).all (· ≤ reachBytes) = true := hwt
  rw [List.append_nil, List.append_nil] at hw2
  exact hw2
theorem alertSettles_said : Rows.AlertSettlesSaid :=
  OpenClaim.holds_of_cond 5 Tryz.f5 rfl rfl rfl rfl rfl rfl rfl ⟨rfl, rfl, rfl, rfl, rfl⟩ rfl rfl rfl rfl rfl (by kernel_rfl) Tryz.func5 (by kernel_rfl)
    (of_decide_eq_true (by kernel_rfl)) (by unfold Func.isWrapper; first | (rw [if_pos (by decide +kernel)]; kernel_rfl) | (rw [if_neg (by decide +kernel)]; exact ⟨rfl, rfl⟩))
    (fun os started H enc _ F => by rw [OpenClaim.pre_eq_preRow]; exact alertSettles_lifted os started H enc F)
theorem alertSettles_plain (f : FuncId) (fn : Func) (hf : Tryz.pinned.checked.prog.funcNamed "ringdown/ringdownlaw10.AlertSettles" = some f) (hfn : Tryz.pinned.checked.prog.funcs[f]? = some fn) :
    true = Tryz.pinned.checked.prog.looks [] ∧ ∀ (j : Nat) t, fn.params[j]? = some t → Tryz.pinned.checked.prog.wantsStandIn t = false := by
  obtain rfl : f = 5 := Option.some.inj ((show Tryz.prog.funcNamed "ringdown/ringdownlaw10.AlertSettles" = some 5 by kernel_rfl).symm.trans hf) |>.symm
  obtain rfl : fn = Tryz.f5 := (Option.some.inj (Tryz.func5.symm.trans hfn)).symm
  refine ⟨by kernel_rfl, fun j t ht => ?_⟩
  rw [Tryz.params5] at ht
  have := Array.mem_of_getElem? ht
  simp at this
  rcases this with rfl | rfl
  · exact (show Tryz.prog.wantsStandIn 24 = false by kernel_rfl)
  · exact (show Tryz.prog.wantsStandIn 25 = false by kernel_rfl)
/-- The law's card. -/
theorem alertSettles_card : Rows.AlertSettlesCardSaid :=
  Claim7.holds_tied_plain_at .later [] _ _ _ _ alertSettles_said (fun _ h => by cases h) (by kernel_rfl) (fun _ h => by cases h) alertSettles_row_tie rfl ⟨rfl, rfl⟩ (by kernel_rfl) rfl alertSettles_plain (by kernel_rfl)
end Go.Proofs.YtohfofecbdfkgaaGreatDoor
