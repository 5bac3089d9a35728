/-
  The law SkyHome.
-/
import Derived.Test.YtcclfhdglhbpcaaGreatDoorW27
import Derived.Test.YtcclfhdglhbpcaaGreatDoorW28
namespace Go.Proofs.YtcclfhdglhbpcaaGreatDoor
open Go.ChangeShapes Go.WideShapes Go.ChangeAt Go.RowKit Al

theorem cIntS : Tryz.prog.cellsOf 3 = 1 := by kernel_rfl
theorem cArrS : Tryz.prog.cellsOf 43 = 3 := by kernel_rfl
theorem cPairS : Tryz.prog.cellsOf 50 = 2 := by kernel_rfl
theorem listS2 {l : List Value} (h : l.length = 2) : ∃ a b, l = [a, b] := by
  match l, h with
  | [a, b], _ => exact ⟨a, b, rfl⟩
theorem listS3 {l : List Value} (h : l.length = 3) : ∃ a b c, l = [a, b, c] := by
  match l, h with
  | [a, b, c], _ => exact ⟨a, b, c, rfl⟩
theorem okWide_arrS {P : Program} {w : World} {r : Reach} {base : Nat} {t e : TypeId} {n : Nat} {v : Value} (ht : P.underlying t = some (.array n e)) (h : Value.okWide P w r base t v) : ∃ cs, v = .agg cs := by
  simp only [Value.okWide, ht] at h
  obtain ⟨cs, h1, _⟩ := h
  exact ⟨cs, h1⟩
section
variable {H : Type} {enc : TypeId × Value → H} {w : World} {B : Nat} {cs : List Value}
set_option maxRecDepth 100000 in
theorem arr_openS (h : Rdg enc w B 43 cs) : ∃ p q x : Int, cs = [.int .i64 p, .int .i64 q, .int .i64 x] := by
  obtain ⟨hl, hf⟩ := h.array Tryz.underlying43
  rw [cArrS] at hl
  obtain ⟨a, b, c, rfl⟩ := listS3 hl
  have h0 := hf 0 (by decide)
  have h1 := hf 1 (by decide)
  have h2 := hf 2 (by decide)
  rw [cIntS] at h0 h1 h2
  obtain ⟨p, e0, _⟩ := h0.int Tryz.underlying3
  obtain ⟨q, e1, _⟩ := h1.int Tryz.underlying3
  obtain ⟨x, e2, _⟩ := h2.int Tryz.underlying3
  cases e0; cases e1; cases e2
  exact ⟨p, q, x, rfl⟩
set_option maxRecDepth 100000 in
theorem pair_openS (h : Rdg enc w B 50 cs) : ∃ p q : Int, cs = [.int .i64 p, .int .i64 q] := by
  obtain ⟨hl, hf⟩ := h.array Tryz.underlying50
  rw [cPairS] at hl
  obtain ⟨a, b, rfl⟩ := listS2 hl
  have h0 := hf 0 (by decide)
  have h1 := hf 1 (by decide)
  rw [cIntS] at h0 h1
  obtain ⟨p, e0, _⟩ := h0.int Tryz.underlying3
  obtain ⟨q, e1, _⟩ := h1.int Tryz.underlying3
  cases e0; cases e1
  exact ⟨p, q, rfl⟩
end

set_option maxRecDepth 100000 in
theorem skyHome_contract (H : Type) (enc : TypeId × Value → H) (W : World) (base : Nat) (args : Array Value) (ds gs : List (DataW H)) (before : List MemPlace)
    (hval : ∀ (j : Nat) t v, Tryz.f6.params[j]? = some t → args[j]? = some v → Value.okWide Tryz.prog W .any base t v)
    (hW : DataW.Whole enc Tryz.prog Tryz.f6.params.toList Rows.skyHomeSpec.vars false W args.toList ds gs before)
    (hwt : (DataW.weightsEach Tryz.prog Tryz.f6.params.toList ds).all (· ≤ reachBytes) = true) (_hL : laidMetH Tryz.prog Rows.skyHomeRow.laid W) (hsh : W.ShapedOpen Tryz.prog) :
    Calls Tryz.prog 6 args W fun e W' => ∃ v, e = .returned v ∧ Rows.skyHomeSpec.post enc Tryz.prog Tryz.f6 false true false false W args v W' := by
  have hlt : ∀ x ∈ before, x.block < W.heap.size := fun x hx => hW.lt x hx
  have hW' := hW
  obtain ⟨p, q, hA0, hV, rfl, _, _⟩ := hW
  have hA : DataW.TrodAll enc Tryz.prog W 0 (fun _ => true) true Tryz.f6.params.toList args.toList ds p := hA0
  have hrdy : MxL W := mxlOf hsh
  obtain ⟨rfl, rfl⟩ := trodVars_none hV
  rw [Tryz.params6] at hA hval hwt
  have rd : ∀ (j : Nat) (t : TypeId) (v : Value), ([3, 50, 43] : List TypeId)[j]? = some t → args.toList[j]? = some v → Rdg enc W W.heap.size t v.cells.toList := fun j t v h1 h2 =>
    rdgOf hA (fun x hx => hlt x (List.mem_append.2 (.inl hx))) hwt h1 h2
  obtain ⟨v0, vs0, d0, ds0, p0, q0, e0, rfl, rfl, h0, r0⟩ := trodAll_cons hA
  obtain ⟨v1, vs1, d1, ds1, p1, q1, e1, rfl, rfl, h1, r1⟩ := trodAll_cons r0
  obtain ⟨v2, vs2, d2, ds2, p2, q2, e2, rfl, rfl, h2, r2⟩ := trodAll_cons r1
  obtain ⟨rfl, rfl, rfl⟩ := trodAll_nil r2
  obtain rfl : args = #[v0, v1, v2] := by cases args; simp_all
  have walk : Calls Tryz.prog 6 #[v0, v1, v2] W fun e w' => e = .returned (.bool true) ∧ Below W.heap.size W w' := by
    obtain ⟨n, hn⟩ := okWide_int Tryz.underlying3 (hval 0 3 v0 rfl rfl)
    obtain ⟨c1, hc1⟩ := okWide_arrS Tryz.underlying50 (hval 1 50 v1 rfl rfl)
    obtain ⟨c2, hc2⟩ := okWide_arrS Tryz.underlying43 (hval 2 43 v2 rfl rfl)
    obtain ⟨p, q, hp⟩ := pair_openS (rd 1 50 v1 rfl rfl)
    obtain ⟨a, b, c, ha⟩ := arr_openS (rd 2 43 v2 rfl rfl)
    subst hn hc1 hc2
    have e1 : c1 = #[.int .i64 p, .int .i64 q] := by rw [← Array.toList_inj]; exact hp
    have e2 : c2 = #[.int .i64 a, .int .i64 b, .int .i64 c] := by rw [← Array.toList_inj]; exact ha
    subst e1 e2
    exact skyHome_ n p q a b c W hrdy
  refine walk.mono fun e W' ⟨he, hb⟩ => ?_
  subst he
  exact ⟨_, rfl, lawPost hW' rfl (by kernel_rfl) rfl (by rw [Tryz.params6]; intro t ht; simp at ht; rcases ht with rfl | rfl | rfl <;> exact ⟨by kernel_rfl, of_decide_eq_true (by kernel_rfl)⟩) hb⟩

theorem skyHome_reads (os : Os) {H : Type} (enc : TypeId × Value → H) : ∃ places, DataW.whole enc Tryz.prog ((laidWorld os).forCall (fun _ _ => 0) ⟨#[], #[.int .i64 0, .agg #[.int .i64 0, .int .i64 0], .agg #[.int .i64 0, .int .i64 0, .int .i64 0]], []⟩).memory Tryz.f6.params.toList Rows.skyHomeSpec.vars false (#[.int .i64 0, .agg #[.int .i64 0, .int .i64 0], .agg #[.int .i64 0, .int .i64 0, .int .i64 0]] : Array Value).toList 8 = some ([.lit (.int .i64 0), .agg [.lit (.int .i64 0), .lit (.int .i64 0)], .agg [.lit (.int .i64 0), .lit (.int .i64 0), .lit (.int .i64 0)]], [], places) :=
  ⟨[], by kernel_rfl⟩
set_option maxRecDepth 100000 in
theorem skyHome_lifted (os : Os) (started : os.Started) (H : Type) (enc : TypeId × Value → H) (F : Stop.Interp) :
    ReturnsInHanded {} Tryz.checked os 6 .any ((OpenSpec.ofChange Rows.skyHomeSpec).preRow enc Tryz.prog Tryz.f6 Rows.skyHomeRow.domain false Rows.skyHomeRow.laid) (((OpenSpec.ofChange Rows.skyHomeSpec).at F).post enc Tryz.prog Tryz.f6 false true false false) := by
  obtain ⟨places, hx⟩ := skyHome_reads os enc
  refine returnsInHanded_of_row (C := Tryz.checked) (s := OpenSpec.ofChange Rows.skyHomeSpec) own started (by kernel_rfl) Tryz.func6
    (witness_row_at (enc := enc) (C := Tryz.checked) false (laidWorld os) #[.int .i64 0, .agg #[.int .i64 0, .int .i64 0], .agg #[.int .i64 0, .int .i64 0, .int .i64 0]] rfl (by kernel_rfl) (by kernel_rfl) (by kernel_rfl)
      (OpenSpec.preRow_of_cond 8 hx (by kernel_rfl) (fun k hk => by cases hk) (by kernel_rfl) (laid_met os _))) ?_
  intro W base args ds gs before hval hW _ _ hwt hL hsh _
  refine skyHome_contract H enc W base args ds gs before hval hW ?_ hL hsh
  have hgs : gs = [] := by
    obtain ⟨p, q, _, hV, _⟩ := hW
    exact (trodVars_none hV).1
  subst hgs
  have hw2 : (DataW.weightsEach Tryz.prog (Tryz.f6.params.toList ++ []) (ds ++ [])).all (· ≤ reachBytes) = true := hwt
  rw [List.append_nil, List.append_nil] at hw2
  exact hw2
theorem skyHome_said : Rows.SkyHomeSaid :=
  OpenClaim.holds_of_cond 6 Tryz.f6 rfl rfl rfl rfl rfl rfl rfl ⟨rfl, rfl, rfl, rfl, rfl⟩ rfl rfl rfl rfl rfl (by kernel_rfl) Tryz.func6 (by kernel_rfl)
    (of_decide_eq_true (by kernel_rfl)) (by unfold Func.isWrapper; first | (rw [if_pos (by decide +kernel)]; kernel_rfl) | (rw [if_neg (by decide +kernel)]; exact ⟨rfl, rfl⟩))
    (fun os started H enc _ F => by rw [OpenClaim.pre_eq_preRow]; exact skyHome_lifted os started H enc F)
theorem skyHome_plain (f : FuncId) (fn : Func) (hf : Tryz.pinned.checked.prog.funcNamed "ringdown/ringdownlaw09.SkyHome" = some f) (hfn : Tryz.pinned.checked.prog.funcs[f]? = some fn) :
    false = Tryz.pinned.checked.prog.looks [] ∧ ∀ (j : Nat) t, fn.params[j]? = some t → Tryz.pinned.checked.prog.wantsStandIn t = false := by
  obtain rfl : f = 6 := Option.some.inj ((show Tryz.prog.funcNamed "ringdown/ringdownlaw09.SkyHome" = some 6 by kernel_rfl).symm.trans hf) |>.symm
  obtain rfl : fn = Tryz.f6 := (Option.some.inj (Tryz.func6.symm.trans hfn)).symm
  refine ⟨by kernel_rfl, fun j t ht => ?_⟩
  rw [Tryz.params6] at ht
  have := Array.mem_of_getElem? ht
  simp at this
  rcases this with rfl | rfl | rfl
  · exact (show Tryz.prog.wantsStandIn 3 = false by kernel_rfl)
  · exact (show Tryz.prog.wantsStandIn 50 = false by kernel_rfl)
  · exact (show Tryz.prog.wantsStandIn 43 = false by kernel_rfl)
/-- The law's card. -/
theorem skyHome_card : Rows.SkyHomeCardSaid :=
  Claim7.holds_tied_plain_at .later [] _ _ _ _ skyHome_said (fun _ h => by cases h) (by kernel_rfl) (fun _ h => by cases h) skyHome_row_tie rfl ⟨rfl, rfl⟩ (by kernel_rfl) rfl skyHome_plain (by kernel_rfl)
end Go.Proofs.YtcclfhdglhbpcaaGreatDoor
