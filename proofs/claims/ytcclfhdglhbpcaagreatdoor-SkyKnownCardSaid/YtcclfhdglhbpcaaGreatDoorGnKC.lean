/-
  SkyKnown: the chapter's other examples, and the limits (a closed statement). No condition beyond the row's own (the listed tables of the library, tied by the card).
-/
import Derived.Test.YtcclfhdglhbpcaaGreatDoorW28
import Derived.Test.YtcclfhdglhbpcaaGreatDoorW64
namespace Go.Proofs.YtcclfhdglhbpcaaGreatDoor
open Go.RowKit Go.ChangeShapes Go.WideShapes Go.ChangeAt Al

theorem gTabType : (Tryz.prog.globals[1]?).map (·.type) = some 266 := by kernel_rfl
theorem cTab : Tryz.prog.cellsOf 266 = 20 := by kernel_rfl
theorem cU64 : Tryz.prog.cellsOf 201 = 1 := by kernel_rfl
theorem tabOf {W : World} (h : laidMetH Tryz.prog tabs W) : Tab W :=
  Lib.tabIs_of_head (rest := []) gTab gTabType Tryz.underlying266 Tryz.underlying201 cU64 cTab (laidMet.tail (laidMet.tail h))
theorem rdnOf {W : World} (h : laidMetH Tryz.prog tabs W) (hsh : W.ShapedOpen Tryz.prog) : RdN W := ⟨mxlOf hsh, tabOf h⟩

set_option maxRecDepth 100000 in
theorem skyKnown_contract (H : Type) (enc : TypeId × Value → H) (W : World) (base : Nat) (args : Array Value) (ds gs : List (DataW H)) (before : List MemPlace)
    (hval : ∀ (j : Nat) t v, Tryz.f11.params[j]? = some t → args[j]? = some v → Value.okWide Tryz.prog W .any base t v)
    (hW : DataW.Whole enc Tryz.prog Tryz.f11.params.toList Rows.skyKnownSpec.vars false W args.toList ds gs before)
    (hwt : (DataW.weightsEach Tryz.prog Tryz.f11.params.toList ds).all (· ≤ reachBytes) = true) (hL : laidMetH Tryz.prog Rows.skyKnownRow.laid W) (hsh : W.ShapedOpen Tryz.prog) :
    Calls Tryz.prog 11 args W fun e W' => ∃ v, e = .returned v ∧ Rows.skyKnownSpec.post enc Tryz.prog Tryz.f11 false true false false W args v W' := by
  have hlt : ∀ x ∈ before, x.block < W.heap.size := fun x hx => hW.lt x hx
  have hW' := hW
  obtain ⟨p, q, hA0, hV, rfl, _, _⟩ := hW
  have hA : DataW.TrodAll enc Tryz.prog W 0 (fun _ => true) true Tryz.f11.params.toList args.toList ds p := hA0
  have hrdy : RdN W := rdnOf hL hsh
  obtain ⟨rfl, rfl⟩ := trodVars_none hV
  rw [Tryz.params11] at hA hval hwt
  obtain ⟨ha, rfl, rfl⟩ := trodAll_nil hA
  obtain rfl : args = #[] := Array.toList_inj.1 ha
  have walk : Calls Tryz.prog 11 #[] W fun e w' => e = .returned (.bool true) ∧ Below W.heap.size W w' := by
    exact skyKnown_ W hrdy
  refine walk.mono fun e W' ⟨he, hb⟩ => ?_
  subst he
  exact ⟨_, rfl, lawPost hW' rfl (by kernel_rfl) rfl (by rw [Tryz.params11]; intro t ht; simp at ht) hb⟩

theorem skyKnown_reads (os : Os) {H : Type} (enc : TypeId × Value → H) : ∃ places, DataW.whole enc Tryz.prog ((laidWorld os).forCall (fun _ _ => 0) ⟨#[], #[], []⟩).memory Tryz.f11.params.toList Rows.skyKnownSpec.vars false (#[] : Array Value).toList 8 = some ([], [], places) :=
  ⟨[], by kernel_rfl⟩
set_option maxRecDepth 100000 in
theorem skyKnown_lifted (os : Os) (started : os.Started) (H : Type) (enc : TypeId × Value → H) (F : Stop.Interp) :
    ReturnsInHanded {} Tryz.checked os 11 .any ((OpenSpec.ofChange Rows.skyKnownSpec).preRow enc Tryz.prog Tryz.f11 Rows.skyKnownRow.domain false Rows.skyKnownRow.laid) (((OpenSpec.ofChange Rows.skyKnownSpec).at F).post enc Tryz.prog Tryz.f11 false true false false) := by
  obtain ⟨places, hx⟩ := skyKnown_reads os enc
  refine returnsInHanded_of_row (C := Tryz.checked) (s := OpenSpec.ofChange Rows.skyKnownSpec) own started (by kernel_rfl) Tryz.func11
    (witness_row_at (enc := enc) (C := Tryz.checked) false (laidWorld os) #[] rfl (by kernel_rfl) (by kernel_rfl) (by kernel_rfl)
      (OpenSpec.preRow_of_cond 8 hx (by kernel_rfl) (fun k hk => by cases hk) (by kernel_rfl) (laid_met os _))) ?_
  intro W base args ds gs before hval hW _ _ hwt hL hsh _
  refine skyKnown_contract H enc W base args ds gs before hval hW ?_ hL hsh
  have hgs : gs = [] := by
    obtain ⟨p, q, _, hV, _⟩ := hW
    exact (trodVars_none hV).1
  subst hgs
  have hw2 : (DataW.weightsEach Tryz.prog (Tryz.f11.params.toList ++ []) (ds ++ [])).all (· ≤ reachBytes) = true := hwt
  rw [List.append_nil, List.append_nil] at hw2
  exact hw2
theorem skyKnown_said : Rows.SkyKnownSaid :=
  OpenClaim.holds_of_cond 11 Tryz.f11 rfl rfl rfl rfl rfl rfl rfl ⟨rfl, rfl, rfl, rfl, rfl⟩ rfl rfl rfl rfl rfl (by kernel_rfl) Tryz.func11 (by kernel_rfl)
    (of_decide_eq_true (by kernel_rfl)) (by unfold Func.isWrapper; first | (rw [if_pos (by decide +kernel)]; kernel_rfl) | (rw [if_neg (by decide +kernel)]; exact ⟨rfl, rfl⟩))
    (fun os started H enc _ F => by rw [OpenClaim.pre_eq_preRow]; exact skyKnown_lifted os started H enc F)
theorem skyKnown_plain (f : FuncId) (fn : Func) (hf : Tryz.pinned.checked.prog.funcNamed "ringdown/ringdownlaw09.SkyKnown" = some f) (hfn : Tryz.pinned.checked.prog.funcs[f]? = some fn) :
    false = Tryz.pinned.checked.prog.looks [] ∧ ∀ (j : Nat) t, fn.params[j]? = some t → Tryz.pinned.checked.prog.wantsStandIn t = false := by
  obtain rfl : f = 11 := Option.some.inj ((show Tryz.prog.funcNamed "ringdown/ringdownlaw09.SkyKnown" = some 11 by kernel_rfl).symm.trans hf) |>.symm
  obtain rfl : fn = Tryz.f11 := (Option.some.inj (Tryz.func11.symm.trans hfn)).symm
  refine ⟨by kernel_rfl, fun j t ht => ?_⟩
  rw [Tryz.params11] at ht
  have := Array.mem_of_getElem? ht
  simp at this
/-- The law's card. -/
theorem skyKnown_card : Rows.SkyKnownCardSaid :=
  Claim7.holds_tied_plain_at .later [] _ _ _ _ skyKnown_said (fun _ h => by cases h) (by kernel_rfl) (fun _ h => by cases h) skyKnown_row_tie rfl ⟨rfl, rfl⟩ (by kernel_rfl) rfl skyKnown_plain (by kernel_rfl)
end Go.Proofs.YtcclfhdglhbpcaaGreatDoor
