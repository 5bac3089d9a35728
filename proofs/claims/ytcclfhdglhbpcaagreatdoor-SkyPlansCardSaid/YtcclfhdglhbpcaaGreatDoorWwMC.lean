/-
  The law SkyPlans.
-/
import Derived.Test.YtcclfhdglhbpcaaGreatDoorW52
import Derived.Test.YtcclfhdglhbpcaaGreatDoorW36
namespace Go.Proofs.YtcclfhdglhbpcaaGreatDoor
open Go.ChangeShapes Go.WideShapes Go.ChangeAt Go.RowKit Al


set_option maxRecDepth 100000 in
theorem skyPlans_contract (H : Type) (enc : TypeId × Value → H) (W : World) (base : Nat) (args : Array Value) (ds gs : List (DataW H)) (before : List MemPlace)
    (hval : ∀ (j : Nat) t v, Tryz.f8.params[j]? = some t → args[j]? = some v → Value.okWide Tryz.prog W .any base t v)
    (hW : DataW.Whole enc Tryz.prog Tryz.f8.params.toList Rows.skyPlansSpec.vars false W args.toList ds gs before)
    (hwt : (DataW.weightsEach Tryz.prog Tryz.f8.params.toList ds).all (· ≤ reachBytes) = true) (_hL : laidMetH Tryz.prog Rows.skyPlansRow.laid W) (hsh : W.ShapedOpen Tryz.prog) :
    Calls Tryz.prog 8 args W fun e W' => ∃ v, e = .returned v ∧ Rows.skyPlansSpec.post enc Tryz.prog Tryz.f8 false true false false W args v W' := by
  have hlt : ∀ x ∈ before, x.block < W.heap.size := fun x hx => hW.lt x hx
  have hW' := hW
  obtain ⟨p, q, hA0, hV, rfl, _, _⟩ := hW
  have hA : DataW.TrodAll enc Tryz.prog W 0 (fun _ => true) true Tryz.f8.params.toList args.toList ds p := hA0
  have hrdy : MxL W := mxlOf hsh
  obtain ⟨rfl, rfl⟩ := trodVars_none hV
  rw [Tryz.params8] at hA hval hwt
  have rd : ∀ (j : Nat) (t : TypeId) (v : Value), ([55, 57, 58] : List TypeId)[j]? = some t → args.toList[j]? = some v → Rdg enc W W.heap.size t v.cells.toList := fun j t v h1 h2 =>
    rdgOf hA (fun x hx => hlt x (List.mem_append.2 (.inl hx))) hwt h1 h2
  obtain ⟨v0, vs0, d0, ds0, p0, q0, e0, rfl, rfl, h0, r0⟩ := trodAll_cons hA
  obtain ⟨v1, vs1, d1, ds1, p1, q1, e1, rfl, rfl, h1, r1⟩ := trodAll_cons r0
  obtain ⟨v2, vs2, d2, ds2, p2, q2, e2, rfl, rfl, h2, r2⟩ := trodAll_cons r1
  obtain ⟨rfl, rfl, rfl⟩ := trodAll_nil r2
  obtain rfl : args = #[v0, v1, v2] := by cases args; simp_all
  have walk : Calls Tryz.prog 8 #[v0, v1, v2] W fun e w' => e = .returned (.bool true) ∧ Below W.heap.size W w' := by
    obtain ⟨a0, n0, k0, hc0⟩ := okWide_slice Tryz.underlying55 (hval 0 55 v0 rfl rfl)
    obtain ⟨A, c, L, hl, hL, hx⟩ := scps_openT (rd 0 55 v0 rfl rfl)
    obtain ⟨c1, hc1, _⟩ := okWide_struct Tryz.underlying57 (hval 1 57 v1 rfl rfl)
    obtain ⟨n, WA, wc, ws, SA, sc, sm, hm, hws, hsm⟩ := map_openT (rd 1 57 v1 rfl rfl)
    obtain ⟨a2, n2, k2, hc2⟩ := okWide_slice Tryz.underlying58 (hval 2 58 v2 rfl rfl)
    obtain ⟨B, d, p, hp, hP⟩ := looks_openT (rd 2 58 v2 rfl rfl)
    subst hc0 hc1 hc2
    have e1 : c1 = #[.int .i64 n, .slice WA ws.length wc, .slice SA sm.length sc] := by rw [← Array.toList_inj]; exact hm
    subst e1
    have e0 : Value.slice a0 n0 k0 = .slice A L.length c := by simpa [Value.cells] using hl
    have e2 : Value.slice a2 n2 k2 = .slice B p.length d := by simpa [Value.cells] using hp
    rw [e0, e2]
    exact skyPlans_ L A c n ws sm WA SA wc sc p B d W hrdy hL (fun y hy => (hx y hy).2) (fun y hy => (hx y hy).1) hws hsm hP
  refine walk.mono fun e W' ⟨he, hb⟩ => ?_
  subst he
  exact ⟨_, rfl, lawPost hW' rfl (by kernel_rfl) rfl (by rw [Tryz.params8]; intro t ht; simp at ht; rcases ht with rfl | rfl | rfl <;> exact ⟨by kernel_rfl, of_decide_eq_true (by kernel_rfl)⟩) hb⟩

theorem skyPlans_reads (os : Os) {H : Type} (enc : TypeId × Value → H) : ∃ places, DataW.whole enc Tryz.prog ((laidWorld os).forCall (fun _ _ => 0) ⟨#[], #[.slice none 0 0, .agg #[.int .i64 0, .slice none 0 0, .slice none 0 0], .slice none 0 0], []⟩).memory Tryz.f8.params.toList Rows.skyPlansSpec.vars false (#[.slice none 0 0, .agg #[.int .i64 0, .slice none 0 0, .slice none 0 0], .slice none 0 0] : Array Value).toList 8 = some ([.nil, .agg [.lit (.int .i64 0), .nil, .nil], .nil], [], places) :=
  ⟨[], by kernel_rfl⟩
set_option maxRecDepth 100000 in
theorem skyPlans_lifted (os : Os) (started : os.Started) (H : Type) (enc : TypeId × Value → H) (F : Stop.Interp) :
    ReturnsInHanded {} Tryz.checked os 8 .any ((OpenSpec.ofChange Rows.skyPlansSpec).preRow enc Tryz.prog Tryz.f8 Rows.skyPlansRow.domain false Rows.skyPlansRow.laid) (((OpenSpec.ofChange Rows.skyPlansSpec).at F).post enc Tryz.prog Tryz.f8 false true false false) := by
  obtain ⟨places, hx⟩ := skyPlans_reads os enc
  refine returnsInHanded_of_row (C := Tryz.checked) (s := OpenSpec.ofChange Rows.skyPlansSpec) own started (by kernel_rfl) Tryz.func8
    (witness_row_at (enc := enc) (C := Tryz.checked) false (laidWorld os) #[.slice none 0 0, .agg #[.int .i64 0, .slice none 0 0, .slice none 0 0], .slice none 0 0] rfl (by kernel_rfl) (by kernel_rfl) (by kernel_rfl)
      (OpenSpec.preRow_of_cond 8 hx (by kernel_rfl) (fun k hk => by cases hk) (by kernel_rfl) (laid_met os _))) ?_
  intro W base args ds gs before hval hW _ _ hwt hL hsh _
  refine skyPlans_contract H enc W base args ds gs before hval hW ?_ hL hsh
  have hgs : gs = [] := by
    obtain ⟨p, q, _, hV, _⟩ := hW
    exact (trodVars_none hV).1
  subst hgs
  have hw2 : (DataW.weightsEach Tryz.prog (Tryz.f8.params.toList ++ []) (ds ++ [])).all (· ≤ reachBytes) = true := hwt
  rw [List.append_nil, List.append_nil] at hw2
  exact hw2
theorem skyPlans_said : Rows.SkyPlansSaid :=
  OpenClaim.holds_of_cond 8 Tryz.f8 rfl rfl rfl rfl rfl rfl rfl ⟨rfl, rfl, rfl, rfl, rfl⟩ rfl rfl rfl rfl rfl (by kernel_rfl) Tryz.func8 (by kernel_rfl)
    (of_decide_eq_true (by kernel_rfl)) (by unfold Func.isWrapper; first | (rw [if_pos (by decide +kernel)]; kernel_rfl) | (rw [if_neg (by decide +kernel)]; exact ⟨rfl, rfl⟩))
    (fun os started H enc _ F => by rw [OpenClaim.pre_eq_preRow]; exact skyPlans_lifted os started H enc F)
theorem skyPlans_plain (f : FuncId) (fn : Func) (hf : Tryz.pinned.checked.prog.funcNamed "ringdown/ringdownlaw09.SkyPlans" = some f) (hfn : Tryz.pinned.checked.prog.funcs[f]? = some fn) :
    false = Tryz.pinned.checked.prog.looks [] ∧ ∀ (j : Nat) t, fn.params[j]? = some t → Tryz.pinned.checked.prog.wantsStandIn t = false := by
  obtain rfl : f = 8 := Option.some.inj ((show Tryz.prog.funcNamed "ringdown/ringdownlaw09.SkyPlans" = some 8 by kernel_rfl).symm.trans hf) |>.symm
  obtain rfl : fn = Tryz.f8 := (Option.some.inj (Tryz.func8.symm.trans hfn)).symm
  refine ⟨by kernel_rfl, fun j t ht => ?_⟩
  rw [Tryz.params8] at ht
  have := Array.mem_of_getElem? ht
  simp at this
  rcases this with rfl | rfl | rfl
  · exact (show Tryz.prog.wantsStandIn 55 = false by kernel_rfl)
  · exact (show Tryz.prog.wantsStandIn 57 = false by kernel_rfl)
  · exact (show Tryz.prog.wantsStandIn 58 = false by kernel_rfl)
/-- The law's card. -/
theorem skyPlans_card : Rows.SkyPlansCardSaid :=
  Claim7.holds_tied_plain_at .later [] _ _ _ _ skyPlans_said (fun _ h => by cases h) (by kernel_rfl) (fun _ h => by cases h) skyPlans_row_tie rfl ⟨rfl, rfl⟩ (by kernel_rfl) rfl skyPlans_plain (by kernel_rfl)
end Go.Proofs.YtcclfhdglhbpcaaGreatDoor
