/-
  The walks of slices.Clone at keys and at signatures.
-/
import Derived.Test.YtohfofecbdfkgaaDoorLs
import Derived.Lib.SliceRun
namespace Go.Proofs.YtohfofecbdfkgaaDoor
open Go.RowKit Al

theorem keyCells_one (ks : List (Int × Int)) : ∀ u ∈ keyCells ks, u.oneCell' = true := by
  intro u hu
  unfold keyCells at hu
  obtain ⟨k, _, hk⟩ := List.mem_flatMap.1 hu
  simp at hk
  rcases hk with rfl | rfl <;> rfl

theorem infoKey : (Tryd.prog.info? 54).map (fun i => (i.zero, i.size, i.bytes)) = some (some (.agg #[.int .i64 0, .int .i64 0]), 2, 16) := by kernel_rfl
/-- A list of pairs in memory of the call's own. -/
def OwnKey (base : Nat) (l : List (Int × Int)) (w : World) (e : Ending) (w' : World) : Prop := ∃ A c, e = .returned (.slice A l.length c) ∧ w'.ownsRow base 54 2 (.slice A l.length c) l.length (keyCells l) ∧ Below w.heap.size w w'
set_option maxRecDepth 100000 in
theorem CloneKey_ (l : List (Int × Int)) (A : Option Addr) (c : Nat) (w : World) (h : Sl w w.heap.size 2 A l.length c (keyCells l)) (hb : l.length * 16 ≤ 140737488355328) :
    Calls Tryd.prog 69 #[.slice A l.length c] w (OwnKey w.heap.size l w) := by
  obtain ⟨i0, hi, hz0, hz1, hz2⟩ := info_parts infoKey
  have q22 : ∀ (w : World) (a : Option Addr) (n c n' c' : Nat), (binOp .eql 22 (.slice a n c) (.slice none n' c')).run Tryd.prog w = .ok (.bool a.isNone) w := fun w a n c n' c' => Lib.run_eql_slice_nil w _ _ a n c n' c' Tryd.underlying22
  cases A with
  | none =>
    have hc := h.nil_ rfl
    have hl0 : l.length = 0 := by have := h.cap; omega
    have hl : l = [] := List.eq_nil_of_length_eq_zero hl0
    subst hl hc
    clear h hb hl0
    go_enter Tryd.func69, Tryd.ntmps69
    go_wp2_with fail
    go_ret
    exact ⟨none, 0, rfl, World.ownsRow_nil _ _ _ _, Below.refl _ _⟩
  | some ad =>
    have HS := Lib.hid h
    have hcm : l.length ≤ maxLen := Nat.le_trans h.cap h.max
    clear h
    have HO := Lib.hid (World.ownsRow_lit (base := w.heap.size) (e := 54) (size := 2) w #[] 0 (Nat.le_refl _) (by decide) rfl)
    have HB0 := Lib.hid ((Below.refl w.heap.size w).alloc (Nat.le_refl _) (.cells #[] 54))
    have HS2 := Lib.hid (HS.out.below HB0.out)
    go_enter Tryd.func69, Tryd.ntmps69
    go_wp2_with
      (at_builtin; go_must (refine wpList_append_sl rfl _ _ 22 rfl w.heap.size 54 i0 (.agg #[.int .i64 0, .int .i64 0]) 2 16 Tryd.underlying22 hi hz0 hz1 hz2 rfl (by decide) _ 0 _ rfl HO.out w.heap.size _ _ _ _ rfl HS2.out (keyCells_one l) (by omega) (by omega) (by simp) ?_); intro v' w1 hown hgrow _
       obtain ⟨A', c', rfl⟩ := own_form hown
       simp only [Nat.zero_add, List.nil_append] at hown
       have HB := Lib.hid (HB0.out.grown hgrow (by simp) (fun g hg => own_base HO.out hg))
       have HOWN := Lib.hid hown
       clear hgrow hown)
    go_ret
    exact ⟨A', c', rfl, by simpa using HOWN.out, HB.out⟩

theorem infoSigs : (Tryd.prog.info? 115).map (fun i => (i.zero, i.size, i.bytes)) = some (some (.agg #[.int .i64 0, .int .i64 0]), 2, 16) := by kernel_rfl
/-- A list of pairs in memory of the call's own. -/
def OwnSigs (base : Nat) (l : List (Int × Int)) (w : World) (e : Ending) (w' : World) : Prop := ∃ A c, e = .returned (.slice A l.length c) ∧ w'.ownsRow base 115 2 (.slice A l.length c) l.length (keyCells l) ∧ Below w.heap.size w w'
set_option maxRecDepth 100000 in
theorem CloneSigs_ (l : List (Int × Int)) (A : Option Addr) (c : Nat) (w : World) (h : Sl w w.heap.size 2 A l.length c (keyCells l)) (hb : l.length * 16 ≤ 140737488355328) :
    Calls Tryd.prog 86 #[.slice A l.length c] w (OwnSigs w.heap.size l w) := by
  obtain ⟨i0, hi, hz0, hz1, hz2⟩ := info_parts infoSigs
  have q22 : ∀ (w : World) (a : Option Addr) (n c n' c' : Nat), (binOp .eql 30 (.slice a n c) (.slice none n' c')).run Tryd.prog w = .ok (.bool a.isNone) w := fun w a n c n' c' => Lib.run_eql_slice_nil w _ _ a n c n' c' Tryd.underlying30
  cases A with
  | none =>
    have hc := h.nil_ rfl
    have hl0 : l.length = 0 := by have := h.cap; omega
    have hl : l = [] := List.eq_nil_of_length_eq_zero hl0
    subst hl hc
    clear h hb hl0
    go_enter Tryd.func86, Tryd.ntmps86
    go_wp2_with fail
    go_ret
    exact ⟨none, 0, rfl, World.ownsRow_nil _ _ _ _, Below.refl _ _⟩
  | some ad =>
    have HS := Lib.hid h
    have hcm : l.length ≤ maxLen := Nat.le_trans h.cap h.max
    clear h
    have HO := Lib.hid (World.ownsRow_lit (base := w.heap.size) (e := 115) (size := 2) w #[] 0 (Nat.le_refl _) (by decide) rfl)
    have HB0 := Lib.hid ((Below.refl w.heap.size w).alloc (Nat.le_refl _) (.cells #[] 115))
    have HS2 := Lib.hid (HS.out.below HB0.out)
    go_enter Tryd.func86, Tryd.ntmps86
    go_wp2_with
      (at_builtin; go_must (refine wpList_append_sl rfl _ _ 30 rfl w.heap.size 115 i0 (.agg #[.int .i64 0, .int .i64 0]) 2 16 Tryd.underlying30 hi hz0 hz1 hz2 rfl (by decide) _ 0 _ rfl HO.out w.heap.size _ _ _ _ rfl HS2.out (keyCells_one l) (by omega) (by omega) (by simp) ?_); intro v' w1 hown hgrow _
       obtain ⟨A', c', rfl⟩ := own_form hown
       simp only [Nat.zero_add, List.nil_append] at hown
       have HB := Lib.hid (HB0.out.grown hgrow (by simp) (fun g hg => own_base HO.out hg))
       have HOWN := Lib.hid hown
       clear hgrow hown)
    go_ret
    exact ⟨A', c', rfl, by simpa using HOWN.out, HB.out⟩
end Go.Proofs.YtohfofecbdfkgaaDoor
