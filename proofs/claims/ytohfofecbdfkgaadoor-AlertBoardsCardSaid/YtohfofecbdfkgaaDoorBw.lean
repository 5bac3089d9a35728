/-
  A region that draws its order and whose calls make memory: one walk of the text's order serves every order, in the class of the worlds that are as this one was below its heap's size (the library's wp_region_quiet at this class).
-/
import Derived.Test.YtohfofecbdfkgaaDoorMem
import Derived.Deep.QuietTactic
import Derived.BigQuiet
namespace Go.Proofs.YtohfofecbdfkgaaDoor
open Go.RowKit

/-- A world that is as W was, below W's heap's size. -/
def BW (W : World) : Type := { w' : World // Below W.heap.size W w' }
def BW.w {W : World} (z : BW W) : World := z.val
theorem BW.below {W : World} (z : BW W) : Below W.heap.size W z.w := z.property
instance (W : World) : Nonempty (BW W) := ⟨⟨W, Below.refl _ _⟩⟩
theorem BW.cell (W : World) : ∀ (z : BW W) (b o : Nat), b < W.heap.size → z.w.cell? ⟨b, o, none⟩ = W.cell? ⟨b, o, none⟩ := fun z b o h => z.below.cell (p := ⟨b, o, none⟩) h
theorem wp_region_bw {P : Program} {id : Nat} {Q : Exit → Act → World → Prop} {a : Act} {w : World} {l : List Oper} (hm : P.follows .mixedOrders = true) (hB : Region.lexB .any l.toArray = true)
    (h : wpQuiet P l.toArray (fun w' => ∃ z : BW w, w' = z.w) (fun a' => ∀ w', Below w.heap.size w w' → Q .normal a' w') l a) : (Code.region id l.toArray true).wp P Q a w := by
  refine wp_region_quiet (C := fun w' => ∃ z : BW w, w' = z.w) hm hB ⟨⟨_, (Below.refl _ _).drew⟩, rfl⟩ ?_
  have e : (fun a' : Act => ∀ w', (∃ z : BW w, w' = z.w) → Q .normal a' w') = fun a' => ∀ w', Below w.heap.size w w' → Q .normal a' w' := by
    funext a'
    refine propext ⟨fun h w' hb => h w' ⟨⟨w', hb⟩, rfl⟩, fun h w' ⟨z, hz⟩ => ?_⟩
    subst hz
    exact h _ z.below
  rw [e]
  simpa using h
theorem wp_region_bw2 {P : Program} {id : Nat} {Q : Exit → Act → World → Prop} {a : Act} {w : World} {l : List Oper} (hm : P.follows .mixedOrders = true) (hB : Region.lexB .any l.toArray = true)
    (h : (∀ (z : BW w) (b o : Nat), b < w.heap.size → z.w.cell? ⟨b, o, none⟩ = w.cell? ⟨b, o, none⟩) → wpQuiet P l.toArray (fun w' => ∃ z : BW w, w' = z.w) (fun a' => ∀ w', Below w.heap.size w w' → Q .normal a' w') l a) : (Code.region id l.toArray true).wp P Q a w :=
  wp_region_bw hm hB (h (BW.cell w))
theorem bwCall {P : Program} {f : FuncId} {args : Array Value} {W : World} {z : BW W} {v : Value} (h : Calls P f args z.w fun e w' => e = .returned v ∧ Below z.w.heap.size z.w w') :
    Calls P f args z.w fun e w'' => e = .returned v ∧ ∃ z' : BW W, w'' = z'.w :=
  h.mono fun _ w'' ⟨he, hb⟩ => ⟨he, ⟨w'', z.below.trans (hb.mono z.below.size)⟩, rfl⟩
theorem bwSame {P : Program} {f : FuncId} {args : Array Value} {W : World} {z : BW W} {v : Value} (h : Calls P f args z.w fun e w' => e = .returned v ∧ z.w = w') :
    Calls P f args z.w fun e w'' => e = .returned v ∧ ∃ z' : BW W, w'' = z'.w :=
  h.mono fun _ _ ⟨he, hb⟩ => ⟨he, z, hb.symm⟩
theorem bwDrew {P : Program} {f : FuncId} {args : Array Value} {W : World} {z : BW W} {v : Value} (h : Calls P f args z.w fun e w' => e = .returned v ∧ ∃ n, w' = z.w.drewN n) :
    Calls P f args z.w fun e w'' => e = .returned v ∧ ∃ z' : BW W, w'' = z'.w :=
  h.mono fun _ w'' ⟨he, n, hb⟩ => ⟨he, ⟨w'', by rw [hb]; exact below_drewN z.below n⟩, rfl⟩
end Go.Proofs.YtohfofecbdfkgaaDoor
