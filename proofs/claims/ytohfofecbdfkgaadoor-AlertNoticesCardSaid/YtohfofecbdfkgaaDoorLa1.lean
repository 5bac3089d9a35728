/-
  AlertNotices: for every roll and notice CheckRoll and CheckNotice return what the chapter says, and the chapter's examples hold. No condition beyond the row's own (the listed tables of the library, tied by the card).
-/
import Derived.Test.YtohfofecbdfkgaaDoorFm
import Derived.Test.YtohfofecbdfkgaaDoorWk
import Derived.Test.YtohfofecbdfkgaaDoorRn
namespace Go.Proofs.YtohfofecbdfkgaaDoor
open Go.RowKit Go.ChangeShapes Go.WideShapes Go.ChangeAt Al

theorem CheckNotice_is (ks : List (Int × Int)) (q : Int) (K : Option Addr) (kc : Nat) (n : Ntc) (A : Option Addr) (c : Nat) (S : Option Addr) (sc : Nat) (w : World) (v : Int) (hv : checkE ks q n = v) (hr : Rin w ks K kc) (hn : NIn w n A c S sc) (ht : Rdy w) :
    Calls Tryd.prog 11 #[rollV ks K kc q, n.val A c S sc] w fun e w' => e = .returned (.int .i64 v) ∧ Below w.heap.size w w' := hv ▸ CheckNotice_ ks q K kc n A c S sc w hr hn ht
theorem rCheckNotice_is (ks : List (Int × Int)) (q : Int) (K : Option Addr) (kc : Nat) (n : Ntc) (A : Option Addr) (c : Nat) (S : Option Addr) (sc : Nat) (w : World) (v : Int) (hv : checkE ks q n = v) (hr : Rin w ks K kc) (hn : NIn w n A c S sc) :
    Calls Tryd.prog 12 #[rollV ks K kc q, n.val A c S sc] w fun e w' => e = .returned (.int .i64 v) ∧ Below w.heap.size w w' := hv ▸ rCheckNotice_ ks q K kc n A c S sc w hr hn

set_option maxRecDepth 100000 in
set_option maxHeartbeats 2000000 in
theorem notices_ (ks : List (Int × Int)) (q : Int) (K : Option Addr) (kc : Nat) (n : Ntc) (A : Option Addr) (c : Nat) (S : Option Addr) (sc : Nat) (w : World) (hr : Rin w ks K kc) (hn : NIn w n A c S sc) (ht : Rdy w) :
    Calls Tryd.prog 3 #[rollV ks K kc q, n.val A c S sc] w fun e w' => e = .returned (.bool true) ∧ Below w.heap.size w w' := by
  have HR := Lib.hid hr
  have HN := Lib.hid hn
  have HT := Lib.hid ht
  obtain ⟨v1, hv1⟩ : ∃ v, errA (rollOk ks q) 104 = v := ⟨_, rfl⟩
  obtain ⟨v2, hv2⟩ : ∃ v, checkE ks q n = v := ⟨_, rfl⟩
  have H1 := Lib.hid hv1
  have H2 := Lib.hid hv2
  clear hr hn ht hv1 hv2
  go_enter Tryd.func3, Tryd.ntmps3
  go_wp2_with fail
  refine wp_region_bw2 (by kernel_rfl) (by kernel_rfl) (fun hbwc => ?_)
  repeat (go_big_quiet_step ((first | (go_at_call 9; exact bwCall (CheckRoll_is ks q K kc _ v1 H1.out (Rin.below (Rin.below HR.out (by (repeat (first | exact Below.refl _ _ | assumption | refine below_drewN ?_ _ | refine Below.drew ?_ | refine Below.setCell ?_ (by first | omega | (simp; done) | (simp; omega)) _ | refine Below.alloc ?_ (by first | omega | (simp; done) | (simp; omega)) _)))) (BW.below _)))) | (go_at_call 10; exact bwCall (rCheckRoll_is ks q K kc _ v1 H1.out (Rin.below (Rin.below HR.out (by (repeat (first | exact Below.refl _ _ | assumption | refine below_drewN ?_ _ | refine Below.drew ?_ | refine Below.setCell ?_ (by first | omega | (simp; done) | (simp; omega)) _ | refine Below.alloc ?_ (by first | omega | (simp; done) | (simp; omega)) _)))) (BW.below _)))) | (go_at_call 11; exact bwCall (CheckNotice_is ks q K kc n A c S sc _ v2 H2.out (Rin.below (Rin.below HR.out (by (repeat (first | exact Below.refl _ _ | assumption | refine below_drewN ?_ _ | refine Below.drew ?_ | refine Below.setCell ?_ (by first | omega | (simp; done) | (simp; omega)) _ | refine Below.alloc ?_ (by first | omega | (simp; done) | (simp; omega)) _)))) (BW.below _)) (NIn.below (HN.out.below (by (repeat (first | exact Below.refl _ _ | assumption | refine below_drewN ?_ _ | refine Below.drew ?_ | refine Below.setCell ?_ (by first | omega | (simp; done) | (simp; omega)) _ | refine Below.alloc ?_ (by first | omega | (simp; done) | (simp; omega)) _)))) (BW.below _)) (Rdy.below (HT.out.below (by (repeat (first | exact Below.refl _ _ | assumption | refine below_drewN ?_ _ | refine Below.drew ?_ | refine Below.setCell ?_ (by first | omega | (simp; done) | (simp; omega)) _ | refine Below.alloc ?_ (by first | omega | (simp; done) | (simp; omega)) _)))) (BW.below _)))) | (go_at_call 12; exact bwCall (rCheckNotice_is ks q K kc n A c S sc _ v2 H2.out (Rin.below (Rin.below HR.out (by (repeat (first | exact Below.refl _ _ | assumption | refine below_drewN ?_ _ | refine Below.drew ?_ | refine Below.setCell ?_ (by first | omega | (simp; done) | (simp; omega)) _ | refine Below.alloc ?_ (by first | omega | (simp; done) | (simp; omega)) _)))) (BW.below _)) (NIn.below (HN.out.below (by (repeat (first | exact Below.refl _ _ | assumption | refine below_drewN ?_ _ | refine Below.drew ?_ | refine Below.setCell ?_ (by first | omega | (simp; done) | (simp; omega)) _ | refine Below.alloc ?_ (by first | omega | (simp; done) | (simp; omega)) _)))) (BW.below _)))) | (go_at_call 13; exact bwCall (works_ _ (Rdy.below (HT.out.below (by (repeat (first | exact Below.refl _ _ | assumption | refine below_drewN ?_ _ | refine Below.drew ?_ | refine Below.setCell ?_ (by first | omega | (simp; done) | (simp; omega)) _ | refine Below.alloc ?_ (by first | omega | (simp; done) | (simp; omega)) _)))) (BW.below _)))))))
  refine wpQuiet_nil ?_
  clear hbwc
  intro w3 hb
  have Hw3 := Lib.hid ((show Below w.heap.size w _ from (by repeat (first | exact Below.refl _ _ | assumption | refine below_drewN ?_ _ | refine Below.drew ?_ | refine Below.setCell ?_ (by first | omega | (simp; done) | (simp; omega)) _ | refine Below.alloc ?_ (by first | omega | (simp; done) | (simp; omega)) _))).trans (hb.mono (by first | omega | (simp; done) | (simp; omega))))
  clear hb
  go_wp2_with fail
  go_ret
  exact ⟨rfl, Hw3.out⟩
set_option maxRecDepth 100000 in
theorem alertNotices_contract (H : Type) (enc : TypeId × Value → H) (W : World) (base : Nat) (args : Array Value) (ds gs : List (DataW H)) (before : List MemPlace)
    (hval : ∀ (j : Nat) t v, Tryd.f3.params[j]? = some t → args[j]? = some v → Value.okWide Tryd.prog W .any base t v)
    (hW : DataW.Whole enc Tryd.prog Tryd.f3.params.toList Rows.alertNoticesSpec.vars false W args.toList ds gs before)
    (hwt : (DataW.weightsEach Tryd.prog Tryd.f3.params.toList ds).all (· ≤ reachBytes) = true) (hL : laidMetH Tryd.prog Rows.alertNoticesRow.laid W) :
    Calls Tryd.prog 3 args W fun e W' => ∃ v, e = .returned v ∧ Rows.alertNoticesSpec.post enc Tryd.prog Tryd.f3 false true false false W args v W' := by
  have hlt : ∀ x ∈ before, x.block < W.heap.size := fun x hx => hW.lt x hx
  have hW' := hW
  obtain ⟨p, q, hA0, hV, rfl, _, _⟩ := hW
  have hA : DataW.TrodAll enc Tryd.prog W 0 (fun _ => true) true Tryd.f3.params.toList args.toList ds p := hA0
  have hrdy : Rdy W := rdyOf hL
  obtain ⟨rfl, rfl⟩ := trodVars_none hV
  rw [Tryd.params3] at hA hval hwt
  have rd : ∀ (j : Nat) (t : TypeId) (v : Value), ([24, 32] : List TypeId)[j]? = some t → args.toList[j]? = some v → Rdg enc W W.heap.size t v.cells.toList := fun j t v h1 h2 =>
    rdgOf hA (fun x hx => hlt x (List.mem_append.2 (.inl hx))) hwt h1 h2
  obtain ⟨v0, vs0, d0, ds0, p0, q0, e0, rfl, rfl, h0, r0⟩ := trodAll_cons hA
  obtain ⟨v1, vs1, d1, ds1, p1, q1, e1, rfl, rfl, h1, r1⟩ := trodAll_cons r0
  obtain ⟨rfl, rfl, rfl⟩ := trodAll_nil r1
  obtain rfl : args = #[v0, v1] := by cases args; simp_all
  have walk : Calls Tryd.prog 3 #[v0, v1] W fun e w' => e = .returned (.bool true) ∧ Below W.heap.size W w' := by
    obtain ⟨c0, hc0, _⟩ := okWide_struct Tryd.underlying24 (hval 0 24 v0 rfl rfl)
    obtain ⟨c1, hc1, _⟩ := okWide_struct Tryd.underlying32 (hval 1 32 v1 rfl rfl)
    obtain ⟨K, kc, ks, qq, hk, hks⟩ := roll_open (rd 0 24 v0 rfl rfl)
    obtain ⟨x, hx, hxb⟩ := ntc_open (rd 1 32 v1 rfl rfl)
    subst hc0 hc1
    have e0 : c0 = #[.slice K ks.length kc, .int .i64 qq] := by rw [← Array.toList_inj]; exact hk
    have e1 : c1 = (ntL x.n.a x.A x.c x.S x.n.sg.length x.sc).toArray := by rw [← Array.toList_inj]; exact hx
    subst e0 e1
    exact notices_ ks qq K kc x.n x.A x.c x.S x.sc W hks ⟨⟨hxb.ev, hxb.cells⟩, hxb.sigs⟩ hrdy
  refine walk.mono fun e W' ⟨he, hb⟩ => ?_
  subst he
  exact ⟨_, rfl, lawPost hW' rfl (by kernel_rfl) rfl (by rw [Tryd.params3]; intro t ht; simp at ht; rcases ht with rfl | rfl <;> exact ⟨by kernel_rfl, of_decide_eq_true (by kernel_rfl)⟩) hb⟩

theorem alertNotices_reads (os : Os) {H : Type} (enc : TypeId × Value → H) : ∃ places, DataW.whole enc Tryd.prog ((laidWorld os).forCall (fun _ _ => 0) ⟨#[], #[.agg #[.slice none 0 0, .int .i64 0], .agg #[.string ⟨#[]⟩, .int .i64 0, .int .i64 0, .int .i64 0, .int .i64 0, .int .i64 0, .slice none 0 0, .bool false, .int .i64 0, .slice none 0 0]], []⟩).memory Tryd.f3.params.toList Rows.alertNoticesSpec.vars false (#[.agg #[.slice none 0 0, .int .i64 0], .agg #[.string ⟨#[]⟩, .int .i64 0, .int .i64 0, .int .i64 0, .int .i64 0, .int .i64 0, .slice none 0 0, .bool false, .int .i64 0, .slice none 0 0]] : Array Value).toList 8 = some ([.agg [.nil, .lit (.int .i64 0)], .agg [.agg [.lit (.string []), .lit (.int .i64 0), .lit (.int .i64 0), .agg [.lit (.int .i64 0), .lit (.int .i64 0)], .lit (.int .i64 0), .nil, .lit (.bool false), .lit (.int .i64 0)], .nil]], [], places) :=
  ⟨[], by kernel_rfl⟩
set_option maxRecDepth 100000 in
theorem alertNotices_lifted (os : Os) (started : os.Started) (H : Type) (enc : TypeId × Value → H) (F : Stop.Interp) :
    ReturnsInHanded {} Tryd.checked os 3 .any ((OpenSpec.ofChange Rows.alertNoticesSpec).preRow enc Tryd.prog Tryd.f3 Rows.alertNoticesRow.domain false Rows.alertNoticesRow.laid) (((OpenSpec.ofChange Rows.alertNoticesSpec).at F).post enc Tryd.prog Tryd.f3 false true false false) := by
  obtain ⟨places, hx⟩ := alertNotices_reads os enc
  refine returnsInHanded_of_row (C := Tryd.checked) (s := OpenSpec.ofChange Rows.alertNoticesSpec) own started (by kernel_rfl) Tryd.func3
    (witness_row_at (enc := enc) (C := Tryd.checked) false (laidWorld os) #[.agg #[.slice none 0 0, .int .i64 0], .agg #[.string ⟨#[]⟩, .int .i64 0, .int .i64 0, .int .i64 0, .int .i64 0, .int .i64 0, .slice none 0 0, .bool false, .int .i64 0, .slice none 0 0]] rfl (by kernel_rfl) (by kernel_rfl) (by kernel_rfl)
      (OpenSpec.preRow_of_cond 8 hx (by kernel_rfl) (fun k hk => by cases hk) (by kernel_rfl) (laid_met os _))) ?_
  intro W base args ds gs before hval hW _ _ hwt hL _ _
  refine alertNotices_contract H enc W base args ds gs before hval hW ?_ hL
  have hgs : gs = [] := by
    obtain ⟨p, q, _, hV, _⟩ := hW
    exact (trodVars_none hV).1
  subst hgs
  have hw2 : (DataW.weightsEach Tryd.prog (Tryd.f3.params.toList ++ []) (ds ++ [])).all (· ≤ reachBytes) = true := hwt
  rw [List.append_nil, List.append_nil] at hw2
  exact hw2
theorem alertNotices_said : Rows.AlertNoticesSaid :=
  OpenClaim.holds_of_cond 3 Tryd.f3 rfl rfl rfl rfl rfl rfl rfl ⟨rfl, rfl, rfl, rfl, rfl⟩ rfl rfl rfl rfl rfl (by kernel_rfl) Tryd.func3 (by kernel_rfl)
    (of_decide_eq_true (by kernel_rfl)) (by unfold Func.isWrapper; first | (rw [if_pos (by decide +kernel)]; kernel_rfl) | (rw [if_neg (by decide +kernel)]; exact ⟨rfl, rfl⟩))
    (fun os started H enc _ F => by rw [OpenClaim.pre_eq_preRow]; exact alertNotices_lifted os started H enc F)
theorem alertNotices_plain (f : FuncId) (fn : Func) (hf : Tryd.pinned.checked.prog.funcNamed "ringdown/ringdownlaw10.AlertNotices" = some f) (hfn : Tryd.pinned.checked.prog.funcs[f]? = some fn) :
    false = Tryd.pinned.checked.prog.looks [] ∧ ∀ (j : Nat) t, fn.params[j]? = some t → Tryd.pinned.checked.prog.wantsStandIn t = false := by
  obtain rfl : f = 3 := Option.some.inj ((show Tryd.prog.funcNamed "ringdown/ringdownlaw10.AlertNotices" = some 3 by kernel_rfl).symm.trans hf) |>.symm
  obtain rfl : fn = Tryd.f3 := (Option.some.inj (Tryd.func3.symm.trans hfn)).symm
  refine ⟨by kernel_rfl, fun j t ht => ?_⟩
  rw [Tryd.params3] at ht
  have := Array.mem_of_getElem? ht
  simp at this
  rcases this with rfl | rfl
  · exact (show Tryd.prog.wantsStandIn 24 = false by kernel_rfl)
  · exact (show Tryd.prog.wantsStandIn 32 = false by kernel_rfl)
/-- The law's card. -/
theorem alertNotices_card : Rows.AlertNoticesCardSaid :=
  Claim7.holds_tied_plain_at .later [] _ _ _ _ alertNotices_said (fun _ h => by cases h) (by kernel_rfl) (fun _ h => by cases h) alertNotices_row_tie rfl ⟨rfl, rfl⟩ (by kernel_rfl) rfl alertNotices_plain (by kernel_rfl)
end Go.Proofs.YtohfofecbdfkgaaDoor
