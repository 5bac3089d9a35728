/-
  SkyArms: a grasp is from -1 to 1, and changes its sign if the arms are exchanged. No condition beyond the row's own (the listed tables of the library, tied by the card).
-/
import Derived.Test.YtpphnnijnnfngaaGreatDoorW43
import Derived.Test.YtpphnnijnnfngaaGreatDoorW44
import Derived.Test.YtpphnnijnnfngaaGreatDoorW30
namespace Go.Proofs.YtpphnnijnnfngaaGreatDoor
open Go.ChangeShapes Go.WideShapes Go.ChangeAt Go.RowKit Al


set_option maxRecDepth 100000 in
theorem skyArms_contract (H : Type) (enc : TypeId × Value → H) (W : World) (base : Nat) (args : Array Value) (ds gs : List (DataW H)) (before : List MemPlace)
    (hval : ∀ (j : Nat) t v, Tryz.f3.params[j]? = some t → args[j]? = some v → Value.okWide Tryz.prog W .any base t v)
    (hW : DataW.Whole enc Tryz.prog Tryz.f3.params.toList Rows.skyArmsSpec.vars false W args.toList ds gs before)
    (hwt : (DataW.weightsEach Tryz.prog Tryz.f3.params.toList ds).all (· ≤ reachBytes) = true) (hL : laidMetH Tryz.prog Rows.skyArmsRow.laid W) (hsh : W.ShapedOpen Tryz.prog) :
    Calls Tryz.prog 3 args W fun e W' => ∃ v, e = .returned v ∧ Rows.skyArmsSpec.post enc Tryz.prog Tryz.f3 false true false false W args v W' := by
  have hlt : ∀ x ∈ before, x.block < W.heap.size := fun x hx => hW.lt x hx
  have hW' := hW
  obtain ⟨p, q, hA0, hV, rfl, _, _⟩ := hW
  have hA : DataW.TrodAll enc Tryz.prog W 0 (fun _ => true) true Tryz.f3.params.toList args.toList ds p := hA0
  have hrdy : RdN W := rdnOf hL hsh
  obtain ⟨rfl, rfl⟩ := trodVars_none hV
  rw [Tryz.params3] at hA hval hwt
  have rd : ∀ (j : Nat) (t : TypeId) (v : Value), ([24] : List TypeId)[j]? = some t → args.toList[j]? = some v → Rdg enc W W.heap.size t v.cells.toList := fun j t v h1 h2 =>
    rdgOf hA (fun x hx => hlt x (List.mem_append.2 (.inl hx))) hwt h1 h2
  obtain ⟨v0, vs0, d0, ds0, p0, q0, e0, rfl, rfl, h0, r0⟩ := trodAll_cons hA
  obtain ⟨rfl, rfl, rfl⟩ := trodAll_nil r0
  obtain rfl : args = #[v0] := by cases args; simp_all
  have walk : Calls Tryz.prog 3 #[v0] W fun e w' => e = .returned (.bool true) ∧ Below W.heap.size W w' := by
    obtain ⟨c0, hc0, _⟩ := okWide_struct Tryz.underlying24 (hval 0 24 v0 rfl rfl)
    obtain ⟨A, c, L, n, k, hn, hL, hm⟩ := net_openT (rd 0 24 v0 rfl rfl)
    subst hc0
    have e0 : c0 = #[.slice A L.length c, .int .i64 n, .int .i64 k] := by rw [← Array.toList_inj]; exact hn
    subst e0
    exact skyArms_ L A c n k W hrdy hL hm
  refine walk.mono fun e W' ⟨he, hb⟩ => ?_
  subst he
  exact ⟨_, rfl, lawPost hW' rfl (by kernel_rfl) rfl (by rw [Tryz.params3]; intro t ht; simp at ht; rcases ht with rfl <;> exact ⟨by kernel_rfl, of_decide_eq_true (by kernel_rfl)⟩) hb⟩

theorem skyArms_reads (os : Os) {H : Type} (enc : TypeId × Value → H) : ∃ places, DataW.whole enc Tryz.prog ((laidWorld os).forCall (fun _ _ => 0) ⟨#[], #[.agg #[.slice none 0 0, .int .i64 0, .int .i64 0]], []⟩).memory Tryz.f3.params.toList Rows.skyArmsSpec.vars false (#[.agg #[.slice none 0 0, .int .i64 0, .int .i64 0]] : Array Value).toList 8 = some ([.agg [.nil, .lit (.int .i64 0), .lit (.int .i64 0)]], [], places) :=
  ⟨[], by kernel_rfl⟩
set_option maxRecDepth 100000 in
theorem skyArms_lifted (os : Os) (started : os.Started) (H : Type) (enc : TypeId × Value → H) (F : Stop.Interp) :
    ReturnsInHanded {} Tryz.checked os 3 .any ((OpenSpec.ofChange Rows.skyArmsSpec).preRow enc Tryz.prog Tryz.f3 Rows.skyArmsRow.domain false Rows.skyArmsRow.laid) (((OpenSpec.ofChange Rows.skyArmsSpec).at F).post enc Tryz.prog Tryz.f3 false true false false) := by
  obtain ⟨places, hx⟩ := skyArms_reads os enc
  refine returnsInHanded_of_row (C := Tryz.checked) (s := OpenSpec.ofChange Rows.skyArmsSpec) own started (by kernel_rfl) Tryz.func3
    (witness_row_at (enc := enc) (C := Tryz.checked) false (laidWorld os) #[.agg #[.slice none 0 0, .int .i64 0, .int .i64 0]] rfl (by kernel_rfl) (by kernel_rfl) (by kernel_rfl)
      (OpenSpec.preRow_of_cond 8 hx (by kernel_rfl) (fun k hk => by cases hk) (by kernel_rfl) (laid_met os _))) ?_
  intro W base args ds gs before hval hW _ _ hwt hL hsh _
  refine skyArms_contract H enc W base args ds gs before hval hW ?_ hL hsh
  have hgs : gs = [] := by
    obtain ⟨p, q, _, hV, _⟩ := hW
    exact (trodVars_none hV).1
  subst hgs
  have hw2 : (DataW.weightsEach Tryz.prog (Tryz.f3.params.toList ++ []) (ds ++ [])).all (· ≤ reachBytes) = true := hwt
  rw [List.append_nil, List.append_nil] at hw2
  exact hw2
theorem skyArms_said : Rows.SkyArmsSaid :=
  OpenClaim.holds_of_cond 3 Tryz.f3 rfl rfl rfl rfl rfl rfl rfl ⟨rfl, rfl, rfl, rfl, rfl⟩ rfl rfl rfl rfl rfl (by kernel_rfl) Tryz.func3 (by kernel_rfl)
    (of_decide_eq_true (by kernel_rfl)) (by unfold Func.isWrapper; first | (rw [if_pos (by decide +kernel)]; kernel_rfl) | (rw [if_neg (by decide +kernel)]; exact ⟨rfl, rfl⟩))
    (fun os started H enc _ F => by rw [OpenClaim.pre_eq_preRow]; exact skyArms_lifted os started H enc F)
theorem skyArms_plain (f : FuncId) (fn : Func) (hf : Tryz.pinned.checked.prog.funcNamed "ringdown/ringdownlaw09.SkyArms" = some f) (hfn : Tryz.pinned.checked.prog.funcs[f]? = some fn) :
    false = Tryz.pinned.checked.prog.looks [] ∧ ∀ (j : Nat) t, fn.params[j]? = some t → Tryz.pinned.checked.prog.wantsStandIn t = false := by
  obtain rfl : f = 3 := Option.some.inj ((show Tryz.prog.funcNamed "ringdown/ringdownlaw09.SkyArms" = some 3 by kernel_rfl).symm.trans hf) |>.symm
  obtain rfl : fn = Tryz.f3 := (Option.some.inj (Tryz.func3.symm.trans hfn)).symm
  refine ⟨by kernel_rfl, fun j t ht => ?_⟩
  rw [Tryz.params3] at ht
  have := Array.mem_of_getElem? ht
  simp at this
  rcases this with rfl
  · exact (show Tryz.prog.wantsStandIn 24 = false by kernel_rfl)
/-- The law's card. -/
theorem skyArms_card : Rows.SkyArmsCardSaid :=
  Claim7.holds_tied_plain_at .later [] _ _ _ _ skyArms_said (fun _ h => by cases h) (by kernel_rfl) (fun _ h => by cases h) skyArms_row_tie rfl ⟨rfl, rfl⟩ (by kernel_rfl) rfl skyArms_plain (by kernel_rfl)
end Go.Proofs.YtpphnnijnnfngaaGreatDoor
