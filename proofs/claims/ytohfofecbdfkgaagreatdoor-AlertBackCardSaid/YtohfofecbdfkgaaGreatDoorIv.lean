/-
  A region that draws its order, by an invariant: what is done is said by D; each operation is shown once, in whatever state it may come up.
-/
import Derived.Test.YtohfofecbdfkgaaGreatDoorU12
import Derived.Orders
namespace Go.Proofs.YtohfofecbdfkgaaGreatDoor
open Go.RowKit

def updD (D : Nat → Bool) (i : Nat) : Nat → Bool := fun j => if j = i then true else D j
def listD (s : Array Bool) : Nat → Bool := fun j => s.getD j false
theorem listD_set {s : Array Bool} {i : Nat} (hi : i < s.size) : listD (s.setIfInBounds i true) = updD (listD s) i := by
  funext j
  unfold listD updD
  by_cases h : j = i
  · subst h
    rw [if_pos rfl]
    simp [Array.getD, hi]
  · rw [if_neg h]
    by_cases hj : j < s.size
    · simp [Array.getD, hj, Ne.symm h]
    · simp [Array.getD, hj]
/-- How many are not done. -/
def openN (s : Array Bool) : Nat := s.toList.countP fun b => !b
theorem openN_set {s : Array Bool} {i : Nat} (hi : i < s.size) (h : s.getD i true = false) : openN (s.setIfInBounds i true) < openN s := by
  obtain ⟨l⟩ := s
  have hi' : i < l.length := hi
  have hx : l[i] = false := by simpa [Array.getD, hi'] using h
  have e1 : l = l.take i ++ l[i] :: l.drop (i + 1) := by rw [← List.drop_eq_getElem_cons hi', List.take_append_drop]
  have e2 : l.set i true = l.take i ++ true :: l.drop (i + 1) := by rw [List.set_eq_take_append_cons_drop, if_pos hi']
  unfold openN
  rw [Array.toList_setIfInBounds]
  show List.countP (fun b => !b) (l.set i true) < List.countP (fun b => !b) l
  rw [e2]
  have e3 : List.countP (fun b => !b) l = List.countP (fun b => !b) (l.take i ++ l[i] :: l.drop (i + 1)) := congrArg _ e1
  rw [e3, List.countP_append, List.countP_append, List.countP_cons, List.countP_cons, hx]
  simp
theorem openN_zero {s : Array Bool} (h : openN s = 0) : ∀ i, s.getD i true = true := by
  intro i
  have h1 := List.countP_eq_zero.1 h
  by_cases hi : i < s.size
  · have h2 := h1 s[i] (by simp)
    simpa [Array.getD, hi] using h2
  · simp [Array.getD, hi]
/-- Every binding edge leads back. -/
def backB (ops : Array Oper) : Bool := (List.range ops.size).all fun i => ((ops[i]?).map fun o => o.after.all fun e => !Region.binds .any e || decide (e.on < i)).getD true
theorem wp_region_inv {P : Program} {ops : Array Oper} {Q : Exit → Act → World → Prop} {a : Act} {w : World} {id : Nat} (Inv : (Nat → Bool) → Act → World → Prop) (hm : P.follows .mixedOrders = true) (hback : backB ops = true)
    (h0 : Inv (fun _ => false) a { w with drawn := w.drawn + 1 })
    (hstep : ∀ D a w i o, ops[i]? = some o → D i = false → (∀ e ∈ o.after, Region.binds .any e = true → D e.on = true) → Inv D a w → wpOp P ops Q i (fun a' w' => Inv (updD D i) a' w') a w)
    (hend : ∀ D a w, (∀ i, i < ops.size → D i = true) → Inv D a w → Q .normal a w) : (Code.region id ops true).wp P Q a w := by
  refine wp_region_any hm ?_
  have key : ∀ (f : Nat) (s : Array Bool) (a : Act) (w : World), s.size = ops.size → openN s ≤ f → Inv (listD s) a w → wpAny P .any ops Q f s a w := by
    have hnil : ∀ (s : Array Bool) a w, s.size = ops.size → Region.ready .any ops s = [] → Inv (listD s) a w → Q .normal a w := by
      intro s a w hs hr hI
      refine hend _ a w (fun i => ?_) hI
      induction i using Nat.strongRecOn with
      | ind i ih =>
        intro hi
        refine Decidable.byContradiction fun hne => ?_
        have hmem : i ∈ Region.ready .any ops s := by
          unfold Region.ready
          rw [List.mem_filter]
          refine ⟨List.mem_range.2 hi, ?_⟩
          have hb := List.all_eq_true.1 hback i (List.mem_range.2 hi)
          have ho : ops[i]? = some ops[i] := Array.getElem?_eq_getElem hi
          rw [ho] at hb ⊢
          simp only [Option.map_some, Option.getD_some] at hb ⊢
          have hsi : s.getD i true = false := by
            have hne' : listD s i = false := by simpa using hne
            unfold listD at hne'
            simpa [Array.getD, hs, hi] using hne'
          rw [hsi, Bool.not_false, Bool.true_and]
          refine Array.all_eq_true.2 fun j hj => ?_
          have h1 := Array.all_eq_true.1 hb j hj
          cases hbd : Region.binds .any (ops[i].after[j]) with
          | false => rfl
          | true =>
            rw [hbd] at h1
            have h2 : (ops[i].after[j]).on < i := by simpa using h1
            have h3 := ih _ h2 (Nat.lt_trans h2 hi)
            simpa [listD] using h3
        rw [hr] at hmem
        cases hmem
    intro f
    induction f with
    | zero =>
      intro s a w hs hf hI
      have hr : Region.ready .any ops s = [] := by
        unfold Region.ready
        refine List.filter_eq_nil_iff.2 fun i _ => ?_
        rw [openN_zero (Nat.le_zero.1 hf) i]
        simp
      exact ⟨hr, hnil s a w hs hr hI⟩
    | succ f ih =>
      intro s a w hs hf hI
      refine ⟨fun hr => hnil s a w hs hr hI, fun i hi => ?_⟩
      unfold Region.ready at hi
      rw [List.mem_filter] at hi
      obtain ⟨h1, h2⟩ := hi
      have hlt := List.mem_range.1 h1
      have ho : ops[i]? = some ops[i] := Array.getElem?_eq_getElem hlt
      rw [ho] at h2
      simp only [Option.map_some, Option.getD_some, Bool.and_eq_true] at h2
      have hsi : s.getD i true = false := by simpa using h2.1
      have hD : listD s i = false := by unfold listD; simpa [Array.getD, hs, hlt] using hsi
      refine wpOp_mono (fun a' w' h' => ?_) (hstep (listD s) a w i ops[i] ho hD (fun e he hb => ?_) hI)
      · have his : i < s.size := by rw [hs]; exact hlt
        refine ih _ a' w' (by simpa using hs) (by have := openN_set his hsi; omega) ?_
        rw [listD_set his]
        exact h'
      · obtain ⟨j, hj, rfl⟩ := Array.mem_iff_getElem.1 he
        have h3 := Array.all_eq_true.1 h2.2 j hj
        rw [hb] at h3
        simpa [listD] using h3
  refine key ops.size _ a _ (by simp) ?_ ?_
  · unfold openN
    refine Nat.le_trans List.countP_le_length (by simp)
  · have e : listD (Array.replicate ops.size false) = fun _ => false := by
      funext j
      unfold listD
      by_cases hj : j < ops.size
      · simp [Array.getD, hj]
      · simp [Array.getD, hj]
    rw [e]
    exact h0
/-- The same, with what is done known to be closed under what binds. -/
theorem wp_region_inv2 {P : Program} {ops : Array Oper} {Q : Exit → Act → World → Prop} {a : Act} {w : World} {id : Nat} (Inv : (Nat → Bool) → Act → World → Prop) (hm : P.follows .mixedOrders = true) (hback : backB ops = true)
    (h0 : Inv (fun _ => false) a { w with drawn := w.drawn + 1 })
    (hstep : ∀ D a w i o, ops[i]? = some o → D i = false → (∀ j p, ops[j]? = some p → D j = true → ∀ e ∈ p.after, Region.binds .any e = true → D e.on = true) → (∀ e ∈ o.after, Region.binds .any e = true → D e.on = true) → Inv D a w → wpOp P ops Q i (fun a' w' => Inv (updD D i) a' w') a w)
    (hend : ∀ D a w, (∀ i, i < ops.size → D i = true) → Inv D a w → Q .normal a w) : (Code.region id ops true).wp P Q a w := by
  refine wp_region_inv (Inv := fun D a w => Inv D a w ∧ ∀ j p, ops[j]? = some p → D j = true → ∀ e ∈ p.after, Region.binds .any e = true → D e.on = true) hm hback ⟨h0, fun _ _ _ h => (by cases h)⟩ ?_ (fun D a w hD h => hend D a w hD h.1)
  intro D a w i o ho hD hdep h
  refine wpOp_mono (fun a' w' hI => ⟨hI, fun j p hp hj e he hb => ?_⟩) (hstep D a w i o ho hD h.2 hdep h.1)
  unfold updD at hj ⊢
  by_cases hei : e.on = i
  · rw [if_pos hei]
  · rw [if_neg hei]
    by_cases hji : j = i
    · subst hji
      rw [ho] at hp
      cases hp
      exact hdep e he hb
    · rw [if_neg hji] at hj
      exact h.2 j p hp hj e he hb
/-- What comes behind an operation, as what comes behind a list of operations. -/
def exK (K : Act → World → Prop) (Q : Exit → Act → World → Prop) : Exit → Act → World → Prop
  | .normal, a, w => K a w
  | .panic c, a, w => Q (.panic c) a w
  | .outgrown, a, w => Q .outgrown a w
  | .ret, a, w => Q .ret a w
  | .exit id, a, w => Q (.exit id) a w
  | .goto t, a, w => Q (.goto t) a w
theorem wpOp_list {P : Program} {ops : Array Oper} {Q : Exit → Act → World → Prop} {i : Nat} {K : Act → World → Prop} {a : Act} {w : World} {o : Oper} (ho : ops[i]? = some o) (hg : o.guard = none) (h : wpList P ops (exK K Q) [o] a w) : wpOp P ops Q i K a w := by
  unfold wpOp
  rw [ho]
  have hw : Region.wanted o (yielded ops a.tmps) = true := by simp [Region.wanted, hg]
  unfold wpList at h
  simp only [hw, if_true] at h ⊢
  rcases h with h | ⟨h1, h2⟩
  · refine .inl ?_
    unfold Oper.wp Oper.upon at h ⊢
    exact h
  · exact .inr ⟨h1, h2⟩
theorem fixV {v : Nat → Value} {k : Nat} {x : Value} (h : v k = x) : ∃ u : Nat → Value, v = fun j => if j = k then x else u j :=
  ⟨v, by funext j; by_cases hj : j = k <;> simp [hj, h]⟩
end Go.Proofs.YtohfofecbdfkgaaGreatDoor
