/-
  Looks that are chosen one after another, each the best in its place, gain at least half of what any looks gain (plain).
-/
import Derived.WalkKit
namespace Go.Proofs.YtcclfhdglhbpcaaGreatDoor
namespace Half9

/-- The sum over the first n cells. -/
def tot (n : Nat) (f : Nat → Int) : Int := ((List.range n).map f).sum
theorem tot_succ (n : Nat) (f : Nat → Int) : tot (n + 1) f = tot n f + f n := by
  unfold tot
  rw [List.range_succ, List.map_append, List.sum_append]
  simp
theorem tot_le {n : Nat} {f g : Nat → Int} (h : ∀ c, c < n → f c ≤ g c) : tot n f ≤ tot n g := by
  induction n with
  | zero => exact Int.le_refl _
  | succ n ih =>
    rw [tot_succ, tot_succ]
    have := ih (fun c hc => h c (by omega))
    have := h n (by omega)
    omega
theorem tot_add (n : Nat) (f g : Nat → Int) : tot n (fun c => f c + g c) = tot n f + tot n g := by
  induction n with
  | zero => rfl
  | succ n ih =>
    rw [tot_succ, tot_succ, tot_succ, ih]
    omega
theorem tot_zero (n : Nat) : tot n (fun _ => 0) = 0 := by
  induction n with
  | zero => rfl
  | succ n ih => rw [tot_succ, ih]; rfl
/-- What the cells of C hold. -/
def onC (C : List Nat) (L : Nat → Int) (c : Nat) : Int := if c ∈ C then L c else 0
/-- What is left when C is taken. -/
def away (L : Nat → Int) (C : List Nat) (c : Nat) : Int := if c ∈ C then 0 else L c
def got (n : Nat) (L : Nat → Int) (C : List Nat) : Int := tot n (onC C L)
/-- What looks gain, one after the other. -/
def gain (n : Nat) : (Nat → Int) → List (List Nat) → Int
  | _, [] => 0
  | L, C :: r => got n L C + gain n (away L C) r
def over (n : Nat) (M L : Nat → Int) : Int := tot n (fun c => max 0 (M c - L c))
/-- Each look of G is the best in its place: of the looks of the same place in P none gains more of what is left. -/
inductive Best (n : Nat) : (Nat → Int) → List (List Nat) → List (List Nat) → Prop
  | nil (L : Nat → Int) : Best n L [] []
  | cons {L : Nat → Int} {C D : List Nat} {P G : List (List Nat)} (h : got n L C ≤ got n L D) (r : Best n (away L D) P G) : Best n L (C :: P) (D :: G)
theorem away_nn {L : Nat → Int} (h : ∀ c, 0 ≤ L c) (C : List Nat) (c : Nat) : 0 ≤ away L C c := by
  unfold away
  split
  · exact Int.le_refl _
  · exact h c
theorem step (n : Nat) {L M : Nat → Int} (hL : ∀ c, 0 ≤ L c) (hM : ∀ c, 0 ≤ M c) (C D : List Nat) :
    got n M C + over n (away M C) (away L D) ≤ got n L C + got n L D + over n M L := by
  unfold got over
  rw [← tot_add, ← tot_add, ← tot_add]
  refine tot_le fun c _ => ?_
  have h1 := hL c
  have h2 := hM c
  unfold onC away
  by_cases hC : c ∈ C <;> by_cases hD : c ∈ D <;> simp only [hC, hD, if_true, if_false] <;> omega
theorem half {n : Nat} {L : Nat → Int} {P G : List (List Nat)} (b : Best n L P G) : ∀ {M : Nat → Int}, (∀ c, 0 ≤ L c) → (∀ c, 0 ≤ M c) → gain n M P ≤ 2 * gain n L G + over n M L := by
  induction b with
  | nil L =>
    intro M hL hM
    unfold gain over
    have := tot_le (n := n) (f := fun _ => 0) (g := fun c => max 0 (M c - L c)) (fun c _ => by omega)
    rw [tot_zero] at this
    omega
  | @cons L C D P G h r ih =>
    intro M hL hM
    have h1 := ih (M := away M C) (away_nn hL D) (away_nn hM C)
    have h2 := step n hL hM C D
    show got n M C + gain n (away M C) P ≤ 2 * (got n L D + gain n (away L D) G) + over n M L
    omega
/-- No looks gain more than twice as much. -/
theorem half_plan {n : Nat} {L : Nat → Int} {P G : List (List Nat)} (b : Best n L P G) (hL : ∀ c, 0 ≤ L c) : gain n L P ≤ 2 * gain n L G := by
  have h := half b hL hL
  have e : over n L L = 0 := by
    unfold over
    have : (fun c => max 0 (L c - L c)) = fun _ => (0 : Int) := by
      funext c
      omega
    rw [this, tot_zero]
  omega
/-- What looks gain is at most what there is. -/
theorem gain_le {n : Nat} (P : List (List Nat)) : ∀ {L : Nat → Int}, (∀ c, 0 ≤ L c) → gain n L P ≤ tot n L := by
  induction P with
  | nil =>
    intro L hL
    have := tot_le (n := n) (f := fun _ => 0) (g := L) (fun c _ => hL c)
    rw [tot_zero] at this
    exact this
  | cons C P ih =>
    intro L hL
    have h1 := ih (away_nn hL C)
    have h2 : got n L C + tot n (away L C) = tot n L := by
      unfold got
      rw [← tot_add]
      congr 1
      funext c
      unfold onC away
      split <;> omega
    show got n L C + gain n (away L C) P ≤ tot n L
    omega
end Half9
end Go.Proofs.YtcclfhdglhbpcaaGreatDoor

/-
  Looks in places one after another: any looks in order fit the places; the greedy ones are the best of each (plain).
-/
namespace Go.Proofs.YtcclfhdglhbpcaaGreatDoor
namespace Half9

/-- A row of covers, one for each place: nothing, or what a look of this place covers. -/
inductive Placed {S X : Type} (ok : X → Prop) (slot : X → S) (cov : X → List Nat) : List S → List (List Nat) → Prop
  | nil : Placed ok slot cov [] []
  | skip {s : S} {ss : List S} {P : List (List Nat)} (r : Placed ok slot cov ss P) : Placed ok slot cov (s :: ss) ([] :: P)
  | take {s : S} {ss : List S} {P : List (List Nat)} (x : X) (hx : ok x) (hs : slot x = s) (r : Placed ok slot cov ss P) : Placed ok slot cov (s :: ss) (cov x :: P)
theorem got_nil (n : Nat) (L : Nat → Int) : got n L [] = 0 := by
  unfold got
  have : onC [] L = fun _ => 0 := by funext c; simp [onC]
  rw [this, tot_zero]
theorem away_nil (L : Nat → Int) : away L [] = L := by funext c; simp [away]
/-- Looks whose places are some of all the places, in order. -/
theorem expand {S X : Type} {ok : X → Prop} {slot : X → S} {cov : X → List Nat} {ss : List S} : ∀ {p : List X}, (p.map slot).Sublist ss → (∀ x ∈ p, ok x) → ∃ P, Placed ok slot cov ss P ∧ ∀ n L, gain n L P = gain n L (p.map cov) := by
  induction ss with
  | nil =>
    intro p h _
    have : p = [] := by
      cases p with
      | nil => rfl
      | cons x p => simp at h
    subst this
    exact ⟨[], .nil, fun _ _ => rfl⟩
  | cons s ss ih =>
    intro p h hp
    cases p with
    | nil =>
      obtain ⟨P, h1, h2⟩ := ih (p := []) (List.nil_sublist _) (fun x hx => by cases hx)
      exact ⟨[] :: P, .skip h1, fun n L => by show got n L [] + gain n (away L []) P = 0; rw [got_nil, away_nil, h2]; rfl⟩
    | cons x p =>
      rw [List.map_cons] at h
      cases h with
      | cons _ h =>
        obtain ⟨P, h1, h2⟩ := ih (p := x :: p) (by rw [List.map_cons]; exact h) hp
        exact ⟨[] :: P, .skip h1, fun n L => by show got n L [] + gain n (away L []) P = _; rw [got_nil, away_nil, h2, Int.zero_add]⟩
      | cons_cons _ h =>
        obtain ⟨P, h1, h2⟩ := ih h (fun y hy => hp y (List.mem_cons_of_mem _ hy))
        exact ⟨cov x :: P, .take x (hp x (by simp)) rfl h1, fun n L => by show got n L (cov x) + gain n (away L (cov x)) P = got n L (cov x) + gain n (away L (cov x)) (p.map cov); rw [h2]⟩
/-- The greedy covers. -/
def greedy {S : Type} (D : S → (Nat → Int) → List Nat) : (Nat → Int) → List S → List (List Nat)
  | _, [] => []
  | L, s :: ss => D s L :: greedy D (away L (D s L)) ss
theorem greedy_best {S X : Type} {ok : X → Prop} {slot : X → S} {cov : X → List Nat} {n : Nat} {D : S → (Nat → Int) → List Nat} (hD : ∀ s L, (∀ c, 0 ≤ L c) → 0 ≤ got n L (D s L) ∧ ∀ x, ok x → slot x = s → got n L (cov x) ≤ got n L (D s L)) :
    ∀ {ss : List S} {P : List (List Nat)} {L : Nat → Int}, (∀ c, 0 ≤ L c) → Placed ok slot cov ss P → Best n L P (greedy D L ss) := by
  intro ss P L hL h
  induction h generalizing L with
  | nil => exact .nil L
  | @skip s ss P r ih => exact .cons (by rw [got_nil]; exact (hD s L hL).1) (ih (away_nn hL _))
  | @take s ss P x hx hs r ih => exact .cons ((hD s L hL).2 x hx hs) (ih (away_nn hL _))
/-- P9.11. -/
theorem greedy_half {S X : Type} {ok : X → Prop} {slot : X → S} {cov : X → List Nat} {n : Nat} {D : S → (Nat → Int) → List Nat} {L : Nat → Int} {ss : List S} {p : List X} (hL : ∀ c, 0 ≤ L c)
    (hD : ∀ s L, (∀ c, 0 ≤ L c) → 0 ≤ got n L (D s L) ∧ ∀ x, ok x → slot x = s → got n L (cov x) ≤ got n L (D s L)) (hp : (p.map slot).Sublist ss) (ho : ∀ x ∈ p, ok x) : gain n L (p.map cov) ≤ 2 * gain n L (greedy D L ss) := by
  obtain ⟨P, h1, h2⟩ := expand (cov := cov) hp ho
  rw [← h2]
  exact half_plan (greedy_best hD hL h1) hL
end Half9
end Go.Proofs.YtcclfhdglhbpcaaGreatDoor
