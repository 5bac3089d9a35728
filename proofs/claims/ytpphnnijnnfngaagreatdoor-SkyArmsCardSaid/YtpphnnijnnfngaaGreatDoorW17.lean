/-
  How an argument reads: its cells, opened by its type; what every law's frame needs.
-/
import Derived.Test.YtpphnnijnnfngaaGreatDoorW01
import Derived.Deep.Slices
import Derived.ChangeSame
import Derived.ChangeArms
import Derived.SizedLaws
import Derived.OpenShut
import Derived.Test.YtpphnnijnnfngaaGreatDoorProg
namespace Go.Proofs.YtpphnnijnnfngaaGreatDoor
open Go.RowKit Go.ChangeShapes Go.WideShapes Go.Deep

theorem weights_mem_all {H : Type} {P : Program} {e : TypeId} : ∀ {l : List (DataW H)} {d : DataW H} {n : Nat}, d ∈ l → n ∈ d.weights P e → n ∈ DataW.weightsAll P e l
  | d0 :: r, d, n, hd, hn => by
    unfold DataW.weightsAll
    rcases List.mem_cons.1 hd with rfl | hd
    · exact List.mem_append.2 (.inl hn)
    · exact List.mem_append.2 (.inr (weights_mem_all hd hn))
theorem weights_struct {H : Type} {P : Program} {t : TypeId} {fs : Array Field} {ds : List (DataW H)} (ht : P.underlying t = some (.struct fs)) : (DataW.agg ds).weights P t = DataW.weightsEach P (fs.toList.map (·.type)) ds := by
  unfold DataW.weights
  rw [ht]
theorem weights_array {H : Type} {P : Program} {t e : TypeId} {n : Nat} {ds : List (DataW H)} (ht : P.underlying t = some (.array n e)) : (DataW.agg ds).weights P t = DataW.weightsAll P e ds := by
  unfold DataW.weights
  rw [ht]
theorem weights_slice {H : Type} {P : Program} {t e : TypeId} {ds sp : List (DataW H)} (ht : P.underlying t = some (.slice e)) : (DataW.slice ds sp).weights P t = (ds.length + sp.length) * P.bytesOf e :: (DataW.weightsAll P e ds ++ DataW.weightsAll P e sp) := by
  unfold DataW.weights
  rw [ht]
theorem flatR_len {α : Type} {f : α → List Value} {sz : Nat} : ∀ {ys : List α}, (∀ y ∈ ys, (f y).length = sz) → (ys.flatMap f).length = ys.length * sz
  | [], _ => by simp
  | z :: r, h => by
    rw [List.flatMap_cons, List.length_append, h z (by simp), flatR_len (fun y hy => h y (by simp [hy])), List.length_cons, Nat.succ_mul]
    omega
section
variable {H : Type} {enc : TypeId × Value → H}

/-- The cells cs read as a datum of type t, through blocks below B, each length within the form's reach. -/
def Rdg (enc : TypeId × Value → H) (w : World) (B : Nat) (t : TypeId) (cs : List Value) : Prop :=
  ∃ (fuel : Nat) (x : DataW H × List MemPlace), DataW.trod enc Tryz.prog w 0 (fun _ => true) true fuel t cs = some x ∧ (∀ p ∈ x.2, p.block < B) ∧ ∀ n ∈ x.1.weights Tryz.prog t, n ≤ reachBytes
variable {w : World} {B : Nat} {t : TypeId} {cs : List Value}

theorem Rdg.int {k : IntKind} (h : Rdg enc w B t cs) (ht : Tryz.prog.underlying t = some (.int k)) : ∃ n, cs = [.int k n] ∧ (Lit.int k n).wf = true := by
  obtain ⟨fuel, x, hx, _, _⟩ := h
  obtain ⟨n, h1, _, h2⟩ := DataW.trod_int ht hx
  exact ⟨n, h1, h2⟩
theorem Rdg.bool (h : Rdg enc w B t cs) (ht : Tryz.prog.underlying t = some .bool) : ∃ b, cs = [.bool b] := by
  obtain ⟨fuel, x, hx, _, _⟩ := h
  obtain ⟨b, h1, _⟩ := DataW.trod_bool ht hx
  exact ⟨b, h1⟩
theorem Rdg.string (h : Rdg enc w B t cs) (ht : Tryz.prog.underlying t = some .string) : ∃ s : ByteArray, cs = [.string s] ∧ s.size ≤ maxLen := by
  obtain ⟨fuel, x, hx, _, _⟩ := h
  obtain ⟨s, h1, _, h2⟩ := DataW.trod_string ht hx
  exact ⟨s, h1, h2⟩
theorem Rdg.struct {fs : Array Field} (h : Rdg enc w B t cs) (ht : Tryz.prog.underlying t = some (.struct fs)) :
    cs.length = Tryz.prog.cellsOf t ∧ ∀ (i : Nat) (f : Field), fs[i]? = some f → Rdg enc w B f.type ((cs.drop f.offset).take (Tryz.prog.cellsOf f.type)) := by
  obtain ⟨fuel, x, hx, hp, hw⟩ := h
  obtain ⟨xs, n, _, rfl, hlen, hxl, hf⟩ := DataW.trod_struct ht hx
  simp only at hp hw
  refine ⟨hlen, fun i f hi => ?_⟩
  have hil : i < fs.size := (Array.getElem?_eq_some_iff.1 hi).1
  have hix : xs[i]? = some (xs[i]'(by omega)) := List.getElem?_eq_getElem (by omega)
  refine ⟨n, xs[i]'(by omega), by rw [← hix]; exact hf i f hi, fun p hpp => hp p ?_, fun m hm => hw m ?_⟩
  · exact List.mem_flatMap.2 ⟨_, List.getElem_mem (by omega), hpp⟩
  · rw [weights_struct ht]
    refine DataW.weights_mem_each (j := i) (t := f.type) (d := (xs[i]'(by omega)).1) ?_ ?_ m hm
    · rw [List.getElem?_map, Array.getElem?_toList, hi]; rfl
    · rw [List.getElem?_map, hix]; rfl
theorem Rdg.array {n : Nat} {e : TypeId} (h : Rdg enc w B t cs) (ht : Tryz.prog.underlying t = some (.array n e)) :
    cs.length = Tryz.prog.cellsOf t ∧ ∀ i, i < n → Rdg enc w B e ((cs.drop (i * Tryz.prog.cellsOf e)).take (Tryz.prog.cellsOf e)) := by
  obtain ⟨fuel, x, hx, hp, hw⟩ := h
  obtain ⟨xs, m, _, rfl, hlen, hxl, hf⟩ := DataW.trod_array ht hx
  simp only at hp hw
  refine ⟨hlen, fun i hi => ?_⟩
  have hix : xs[i]? = some (xs[i]'(by omega)) := List.getElem?_eq_getElem (by omega)
  refine ⟨m, xs[i]'(by omega), by rw [← hix]; exact hf i hi, fun p hpp => hp p ?_, fun k hk => hw k ?_⟩
  · exact List.mem_flatMap.2 ⟨_, List.getElem_mem (by omega), hpp⟩
  · rw [weights_array ht]
    exact weights_mem_all (List.mem_map.2 ⟨_, List.getElem_mem (by omega), rfl⟩) hk
/-- A slice: its elements, each read. -/
theorem Rdg.slice {e : TypeId} (h : Rdg enc w B t cs) (ht : Tryz.prog.underlying t = some (.slice e)) :
    ∃ (A : Option Addr) (n c : Nat), cs = [.slice A n c] ∧ n ≤ c ∧ c ≤ maxLen ∧ (A = none → c = 0) ∧ n * Tryz.prog.bytesOf e ≤ reachBytes ∧
      ∀ i, i < n → ∃ a cs', A = some a ∧ w.cells? 0 (a.add (i * Tryz.prog.cellsOf e)) (Tryz.prog.cellsOf e) = some cs' ∧ (0 < Tryz.prog.cellsOf e → a.block < B) ∧ Rdg enc w B e cs' := by
  obtain ⟨fuel, x, hx, hp, hw⟩ := h
  rcases open_slice ht hx with ⟨rfl, rfl⟩ | ⟨a, len, cap, m, n, D, Pl, rfl, _, hl, hm, hmm, rfl, hi⟩
  · exact ⟨none, 0, 0, rfl, Nat.le_refl _, Nat.zero_le _, fun _ => rfl, by simp, fun i hi => absurd hi (by omega)⟩
  · have hmc : m = cap := by simpa using hmm
    subst hmc
    simp only at hp hw
    refine ⟨some a, len, m, rfl, hl, hm, (fun h => nomatch h), ?_, fun i hil => ?_⟩
    · have := hw ((((List.range len).map D).length + ((List.range (m - len)).map fun j => D (len + j)).length) * Tryz.prog.bytesOf e) (by
        rw [weights_slice ht]
        exact List.mem_cons_self)
      simp at this
      exact Nat.le_trans (Nat.mul_le_mul_right _ (by omega)) this
    · obtain ⟨cs', hc, htr⟩ := hi i (by omega)
      refine ⟨a, cs', rfl, hc, fun hpos => hp (.cell a.block a.off) ?_, n, _, htr, fun p hpp => hp p ?_, fun k hk => hw k ?_⟩
      · refine List.mem_append.2 (.inl ?_)
        unfold MemPlace.row
        refine List.mem_map.2 ⟨0, List.mem_range.2 (Nat.mul_pos (by omega) hpos), rfl⟩
      · exact List.mem_append.2 (.inr (List.mem_flatMap.2 ⟨i, List.mem_range.2 (by omega), hpp⟩))
      · rw [weights_slice ht]
        refine List.mem_cons_of_mem _ (List.mem_append.2 (.inl (weights_mem_all (List.mem_map.2 ⟨i, List.mem_range.2 hil, rfl⟩) hk)))
/-- A slice whose elements are laid as f says. -/
theorem Rdg.rows {e : TypeId} (h : Rdg enc w B t cs) (ht : Tryz.prog.underlying t = some (.slice e)) {sz : Nat} (hsz : Tryz.prog.cellsOf e = sz) (hpos : 0 < sz) {α : Type} (f : α → List Value) (R : α → Prop) (hel : ∀ cs', Rdg enc w B e cs' → ∃ y, cs' = f y ∧ R y) :
    ∃ (A : Option Addr) (c : Nat) (ys : List α), cs = [.slice A ys.length c] ∧ Sl w B sz A ys.length c (ys.flatMap f) ∧ ys.length * Tryz.prog.bytesOf e ≤ reachBytes ∧ ∀ y ∈ ys, R y := by
  obtain ⟨A, n, c, rfl, hl, hm, hnil, hb, hi⟩ := h.slice ht
  rw [hsz] at hi
  have key : ∀ k, k ≤ n → ∃ ys : List α, ys.length = k ∧ (∀ y ∈ ys, R y) ∧ (∀ y ∈ ys, (f y).length = sz) ∧ ∀ a, A = some a → ∀ j u, (ys.flatMap f)[j]? = some u → w.cell? (a.add j) = some u := by
    intro k
    induction k with
    | zero => intro _; exact ⟨[], rfl, by simp, by simp, by simp⟩
    | succ k ih =>
      intro hk
      obtain ⟨ys, h1, h2, h3, h4⟩ := ih (by omega)
      obtain ⟨a, cs', ha, hc, _, hr⟩ := hi k (by omega)
      obtain ⟨y, rfl, hy⟩ := hel cs' hr
      obtain ⟨_, hcl, hat⟩ := World.cells?_some hc
      refine ⟨ys ++ [y], by simp [h1], ?_, ?_, ?_⟩
      · intro z hz
        rcases List.mem_append.1 hz with hz | hz
        · exact h2 z hz
        · rw [List.mem_singleton.1 hz]; exact hy
      · intro z hz
        rcases List.mem_append.1 hz with hz | hz
        · exact h3 z hz
        · rw [List.mem_singleton.1 hz]; exact hcl
      · intro a' ha' j u hu
        rw [ha] at ha'
        cases ha'
        have hlen : (ys.flatMap f).length = k * sz := by rw [flatR_len h3, h1]
        rw [List.flatMap_append] at hu
        by_cases hj : j < k * sz
        · rw [List.getElem?_append_left (by rw [hlen]; exact hj)] at hu
          exact h4 a ha j u hu
        · rw [List.getElem?_append_right (by rw [hlen]; omega), hlen] at hu
          simp only [List.flatMap_cons, List.flatMap_nil, List.append_nil] at hu
          have hj2 : j - k * sz < sz := by
            have := (List.getElem?_eq_some_iff.1 hu).1
            omega
          have := hat (j - k * sz) hj2
          rw [add_add, show k * sz + (j - k * sz) = j by omega] at this
          rw [this]
          exact hu
  obtain ⟨ys, h1, h2, h3, h4⟩ := key n (Nat.le_refl _)
  subst h1
  have hlen : (ys.flatMap f).length = ys.length * sz := flatR_len h3
  refine ⟨A, c, ys, rfl, ⟨hlen, hl, hm, hnil, fun hn => ?_⟩, hb, h2⟩
  obtain ⟨a, cs', ha, hc, hB, _⟩ := hi 0 hn
  obtain ⟨_, hcl, hat⟩ := World.cells?_some hc
  have h0 := hat 0 hpos
  have hsp : w.cell? (a.add 0) = some (cs'[0]'(by omega)) := by
    rw [Nat.zero_mul, add_add] at h0
    rw [h0]
    exact List.getElem?_eq_getElem (by omega)
  obtain ⟨b, off, spot⟩ := a
  have hspot : spot = none := by simpa [Addr.add] using World.cell?_spot hsp
  subst hspot
  refine ⟨b, off, ha, hB hpos, fun j u hu => ?_⟩
  have := h4 _ ha j u hu
  rwa [show (⟨b, off, none⟩ : Addr).add j = ⟨b, off + j, none⟩ from Addr.add_lit ..] at this
end
end Go.Proofs.YtpphnnijnnfngaaGreatDoor
