/-
  The first notices of a slice; the remainder.
-/
import Derived.Test.YtohfofecbdfkgaaGreatDoorU30
import Derived.Test.YtohfofecbdfkgaaGreatDoorU31
import Derived.Test.YtohfofecbdfkgaaGreatDoorV01Lt9
namespace Go.Proofs.YtohfofecbdfkgaaGreatDoor
open Go.RowKit Al

theorem itCells_app (L M : List It) : itCells (L ++ M) = itCells L ++ itCells M := by simp [itCells]
theorem Sl.take_it {w : World} {B nc : Nat} {N : Option Addr} {L : List It} (h : Sl w B 10 N L.length nc (itCells L)) {k : Nat} (hk : k ≤ L.length) : Sl w B 10 N (L.take k).length nc (itCells (L.take k)) := by
  have hl : (L.take k).length = k := by rw [List.length_take]; omega
  refine ⟨itCells_len _, by have := h.cap; omega, h.max, h.nil_, fun hn => ?_⟩
  obtain ⟨b, off, e, hb, hc⟩ := h.at_ (by omega)
  refine ⟨b, off, e, hb, fun j u hu => hc j u ?_⟩
  have e2 : itCells L = itCells (L.take k) ++ itCells (L.drop k) := by rw [← itCells_app, List.take_append_drop]
  have hj : j < (itCells (L.take k)).length := (List.getElem?_eq_some_iff.1 hu).1
  rw [e2, List.getElem?_append_left hj]
  exact hu
theorem Mod_is (n m : Int) (k : Nat) (w : World) (hm : 1 ≤ m) (hm2 : m ≤ 4611686018427387904) (hv : n % m = (k : Int)) :
    Calls Tryz.prog 11 #[.int .i64 n, .int .i64 m] w fun e w' => e = .returned (.int .i64 (k : Int)) ∧ w = w' := hv ▸ Mod_ n m hm hm2 w
end Go.Proofs.YtohfofecbdfkgaaGreatDoor
