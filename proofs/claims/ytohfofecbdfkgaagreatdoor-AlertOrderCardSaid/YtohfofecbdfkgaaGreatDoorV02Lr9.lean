/-
  The first notices of a slice; the remainder.
-/
import Derived.Test.YtohfofecbdfkgaaGreatDoorU30
import Derived.Test.YtohfofecbdfkgaaGreatDoorU31
import Derived.Test.YtohfofecbdfkgaaGreatDoorV01Lr9
import Derived.Test.YtohfofecbdfkgaaGreatDoorU25
import Derived.Test.YtohfofecbdfkgaaGreatDoorU29
import Derived.Test.YtohfofecbdfkgaaGreatDoorU21
import Derived.Test.YtohfofecbdfkgaaGreatDoorU12
namespace Go.Proofs.YtohfofecbdfkgaaGreatDoor
open Go.RowKit Al

theorem itCells_app (L M : List It) : itCells (L ++ M) = itCells L ++ itCells M := by simp [itCells]
theorem Sl.take_it {w : World} {B nc : Nat} {N : Option Addr} {L : List It} (h : Sl w B 10 N L.length nc (itCells L)) {k : Nat} (hk : k ≤ L.length) : Sl w B 10 N (L.take k).length nc (itCells (L.take k)) := by
  have hl : (L.take k).length = k := by rw [List.length_take]; omega
  refine ⟨itCells_len _, by have := h.cap; omega, h.max, h.nil_, fun hn => ?_⟩
  obtain ⟨b, off, e, hb, hc⟩ := h.at_ (by omega)
  refine ⟨b, off, e, hb, fun j u hu => hc j u ?_⟩
  have e2 : itCells L = itCells (L.take k) ++ itCells (L.drop k) := by rw [← itCells_app, List.take_append_drop]
  have hj : j < (itCells (L.take k)).length := (List.getElem?_eq_some_iff.1 hu).1
  rw [e2, List.getElem?_append_left hj]
  exact hu
theorem Mod_is (n m : Int) (k : Nat) (w : World) (hm : 1 ≤ m) (hm2 : m ≤ 4611686018427387904) (hv : n % m = (k : Int)) :
    Calls Tryz.prog 11 #[.int .i64 n, .int .i64 m] w fun e w' => e = .returned (.int .i64 (k : Int)) ∧ w = w' := hv ▸ Mod_ n m hm hm2 w
end Go.Proofs.YtohfofecbdfkgaaGreatDoor

/-
  Plain: a list of notices in another order, some of them twice, and with one that is not valid, settles and forks as the list.
-/
namespace Go.Proofs.YtohfofecbdfkgaaGreatDoor
open Go.RowKit Al

/-- What a list in another order is. -/
structure Shuf (L X : List It) : Prop where
  all : ∀ x ∈ L, x ∈ X
  of : ∀ x ∈ X, x ∈ L ∨ x.n.sg = [(-1, 0)]
  len : X.length = L.length ∨ (X.length ≤ 64 ∧ L.length ≤ 64)
theorem notice_minus {ks : List (Int × Int)} {q : Int} {n : Ntc} (h : n.sg = [(-1, 0)]) : noticeE ks q n ≠ 0 := by
  have hs : sigsOk ks (digA n.a) (-1) n.sg = false := by rw [h]; simp [sigsOk]
  cases hk : okA n.a with
  | true => rw [noticeE_sig hk hs]; decide
  | false => rw [noticeE_bad hk]; decide
theorem Shuf.valid {L X : List It} (h : Shuf L X) (ks : List (Int × Int)) (q : Int) : ∀ x, x ∈ validN ks q X ↔ x ∈ validN ks q L := by
  intro x
  unfold validN
  rw [List.mem_filter, List.mem_filter]
  constructor
  · rintro ⟨h1, h2⟩
    rcases h.of x h1 with h3 | h3
    · exact ⟨h3, h2⟩
    · exact absurd (by simpa using h2) (notice_minus h3)
  · rintro ⟨h1, h2⟩
    exact ⟨h.all x h1, h2⟩
theorem Shuf.many {L X : List It} (h : Shuf L X) (ks : List (Int × Int)) (q : Int) : manyE ks q X.length = manyE ks q L.length := by
  unfold manyE
  rcases h.len with h1 | ⟨h1, h2⟩
  · rw [h1]
  · rw [if_neg (show ¬ 64 < X.length by omega), if_neg (show ¬ 64 < L.length by omega)]
theorem Shuf.settle {L X : List It} (h : Shuf L X) (ks : List (Int × Int)) (q : Int) : settleR ks q X = settleR ks q L := by
  unfold settleR
  rw [h.many, settleS_set (h.valid ks q)]
theorem Shuf.forks {L X : List It} (h : Shuf L X) (ks : List (Int × Int)) (q : Int) : forksR ks q X = forksR ks q L := by
  unfold forksR
  rw [h.many, forksS_set (h.valid ks q)]
theorem err_settle (ks : List (Int × Int)) (q : Int) (L : List It) : ∃ l, settleR ks q L = (l, manyE ks q L.length) := by
  unfold settleR
  split
  · rename_i h; exact ⟨_, by rw [h]⟩
  · exact ⟨_, rfl⟩
theorem err_forks (ks : List (Int × Int)) (q : Int) (L : List It) : ∃ l, forksR ks q L = (l, manyE ks q L.length) := by
  unfold forksR
  split
  · rename_i h; exact ⟨_, by rw [h]⟩
  · exact ⟨_, rfl⟩
/-- Notices in memory of the call's own, in another order. -/
def OwnSh (L : List It) (w : World) (e : Ending) (w' : World) : Prop :=
  ∃ (X : List It) (A : Option Addr) (c : Nat), Shuf L X ∧ e = .returned (.slice A X.length c) ∧ Sl w' w'.heap.size 10 A X.length c (itCells X) ∧ (∀ x ∈ X, NIn w' x.n x.A x.c x.S x.sc) ∧ Below w.heap.size w w'
end Go.Proofs.YtohfofecbdfkgaaGreatDoor
