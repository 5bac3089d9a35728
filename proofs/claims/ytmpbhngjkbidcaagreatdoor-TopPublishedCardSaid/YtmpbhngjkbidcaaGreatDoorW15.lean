/-
  The walks of slices.Clone at triggers, and of the search's slide (up to its turn).
-/
import Derived.Test.YtmpbhngjkbidcaaGreatDoorW02
import Derived.Test.YtmpbhngjkbidcaaGreatDoorW13
import Derived.Lib.SliceRun
namespace Go.Proofs.YtmpbhngjkbidcaaGreatDoor
open Go.RowKit Al

theorem trCells_one (l : List Trg) : ∀ u ∈ trCells l, u.oneCell' = true := by
  intro u hu
  unfold trCells at hu
  obtain ⟨k, _, hk⟩ := List.mem_flatMap.1 hu
  simp at hk
  rcases hk with rfl | rfl | rfl <;> rfl
theorem infoTrg : (Tryz.prog.info? 47).map (fun i => (i.zero, i.size, i.bytes)) = some (some (.agg #[.int .i64 0, .int .i64 0, .int .i64 0]), 3, 24) := by kernel_rfl
/-- A list of triggers in memory of the call's own. -/
def OwnTrg (base : Nat) (l : List Trg) (w : World) (e : Ending) (w' : World) : Prop := ∃ A c, e = .returned (.slice A l.length c) ∧ w'.ownsRow base 47 3 (.slice A l.length c) l.length (trCells l) ∧ Below w.heap.size w w'
set_option maxRecDepth 100000 in
theorem CloneTrg_ (l : List Trg) (A : Option Addr) (c : Nat) (w : World) (h : Sl w w.heap.size 3 A l.length c (trCells l)) (hb : l.length * 24 ≤ 140737488355328) :
    Calls Tryz.prog 109 #[.slice A l.length c] w (OwnTrg w.heap.size l w) := by
  obtain ⟨i0, hi, hz0, hz1, hz2⟩ := info_parts infoTrg
  have q22 : ∀ (w : World) (a : Option Addr) (n c n' c' : Nat), (binOp .eql 22 (.slice a n c) (.slice none n' c')).run Tryz.prog w = .ok (.bool a.isNone) w := fun w a n c n' c' => Lib.run_eql_slice_nil w _ _ a n c n' c' Tryz.underlying22
  cases A with
  | none =>
    have hc := h.nil_ rfl
    have hl0 : l.length = 0 := by have := h.cap; omega
    have hl : l = [] := List.eq_nil_of_length_eq_zero hl0
    subst hl hc
    clear h hb hl0
    go_enter Tryz.func109, Tryz.ntmps109
    go_wp2_with fail
    go_ret
    exact ⟨none, 0, rfl, World.ownsRow_nil _ _ _ _, Below.refl _ _⟩
  | some ad =>
    have HS := Lib.hid h
    have hcm : l.length ≤ maxLen := Nat.le_trans h.cap h.max
    clear h
    have HO := Lib.hid (World.ownsRow_lit (base := w.heap.size) (e := 47) (size := 3) w #[] 0 (Nat.le_refl _) (by decide) rfl)
    have HB0 := Lib.hid ((Below.refl w.heap.size w).alloc (Nat.le_refl _) (.cells #[] 47))
    have HS2 := Lib.hid (HS.out.below HB0.out)
    go_enter Tryz.func109, Tryz.ntmps109
    go_wp2_with
      (at_builtin; go_must (refine wpList_append_sl rfl _ _ 22 rfl w.heap.size 47 i0 (.agg #[.int .i64 0, .int .i64 0, .int .i64 0]) 3 24 Tryz.underlying22 hi hz0 hz1 hz2 rfl (by decide) _ 0 _ rfl HO.out w.heap.size _ _ _ _ rfl HS2.out (trCells_one l) (by omega) (by omega) (by simp) ?_); intro v' w1 hown hgrow _
       obtain ⟨A', c', rfl⟩ := own_form hown
       simp only [Nat.zero_add, List.nil_append] at hown
       have HB := Lib.hid (HB0.out.grown hgrow (by simp) (fun g hg => own_base HO.out hg))
       have HOWN := Lib.hid hown
       clear hgrow hown)
    go_ret
    exact ⟨A', c', rfl, by simpa using HOWN.out, HB.out⟩
/-- A trigger that was slid. -/
def slT (live d : Int) (t : Trg) : Trg := (if live ≤ wrap64 (t.1 + d) then wrap64 (wrap64 (t.1 + d) - live) else wrap64 (t.1 + d), t.2.1, t.2.2)
/-- The first triggers slid. -/
def slN (live d : Int) (l : List Trg) (k : Nat) : List Trg := (l.take k).map (slT live d) ++ l.drop k
/-- From where on the clock has gone round, of the first triggers. -/
def firstN (live d : Int) (l : List Trg) : Nat → Nat
  | 0 => l.length
  | k + 1 => if live ≤ wrap64 ((l.getD k (0, 0, 0)).1 + d) then min (firstN live d l k) k else firstN live d l k
theorem firstN_le (live d : Int) (l : List Trg) (k : Nat) : firstN live d l k ≤ l.length := by
  induction k with
  | zero => exact Nat.le_refl _
  | succ k ih => unfold firstN; split <;> omega
/-- What slide hands back. -/
def slideL (live d : Int) (l : List Trg) : List Trg := (l.map (slT live d)).drop (firstN live d l l.length) ++ (l.map (slT live d)).take (firstN live d l l.length)
theorem slN_len (live d : Int) (l : List Trg) (k : Nat) (h : k ≤ l.length) : (slN live d l k).length = l.length := by
  unfold slN
  simp
  omega
theorem slN_at (live d : Int) (l : List Trg) {k : Nat} (h : k < l.length) : (slN live d l k)[k]'(by rw [slN_len _ _ _ _ (by omega)]; exact h) = l[k] := by
  unfold slN
  rw [List.getElem_append_right (by simp; omega)]
  simp [Nat.min_eq_left (Nat.le_of_lt h)]
theorem slN_set (live d : Int) (l : List Trg) {k : Nat} (h : k < l.length) : (slN live d l k).set k (slT live d l[k]) = slN live d l (k + 1) := by
  unfold slN
  rw [List.take_succ_eq_append_getElem h, List.map_append, List.set_append_right _ _ (by simp; omega)]
  rw [show k - ((l.take k).map (slT live d)).length = 0 by simp; omega]
  simp only [List.append_assoc]
  congr 1
  rw [List.drop_eq_getElem_cons h]
  rfl
theorem trCells_set (l : List Trg) (k : Nat) (t : Trg) (h : k < l.length) (he : t.2 = l[k].2) : (trCells l).set (k * 3) (.int .i64 t.1) = trCells (l.set k t) := by
  induction l generalizing k with
  | nil => exact absurd h (by simp)
  | cons a l ih =>
    cases k with
    | zero =>
      obtain ⟨x, y⟩ := t
      simp only [List.getElem_cons_zero] at he
      subst he
      rfl
    | succ k =>
      have := ih k (by simpa using h) (by simpa using he)
      simp only [trCells, List.flatMap_cons, List.set_cons_succ] at this ⊢
      rw [show (k + 1) * 3 = k * 3 + 3 by omega]
      simpa [List.set] using this
end Go.Proofs.YtmpbhngjkbidcaaGreatDoor
