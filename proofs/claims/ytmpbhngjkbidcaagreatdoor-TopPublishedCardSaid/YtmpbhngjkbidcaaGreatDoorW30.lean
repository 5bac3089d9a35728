/-
  How an argument reads: its cells, opened by its type; what every law's frame needs.
-/
import Derived.Test.YtmpbhngjkbidcaaGreatDoorW01
import Derived.Deep.Slices
import Derived.ChangeSame
import Derived.ChangeArms
import Derived.SizedLaws
import Derived.OpenShut
import Derived.Test.YtmpbhngjkbidcaaGreatDoorProg
import Derived.Test.YtmpbhngjkbidcaaGreatDoorW14
namespace Go.Proofs.YtmpbhngjkbidcaaGreatDoor
open Go.RowKit Go.ChangeShapes Go.WideShapes Go.Deep

theorem weights_mem_all {H : Type} {P : Program} {e : TypeId} : ∀ {l : List (DataW H)} {d : DataW H} {n : Nat}, d ∈ l → n ∈ d.weights P e → n ∈ DataW.weightsAll P e l
  | d0 :: r, d, n, hd, hn => by
    unfold DataW.weightsAll
    rcases List.mem_cons.1 hd with rfl | hd
    · exact List.mem_append.2 (.inl hn)
    · exact List.mem_append.2 (.inr (weights_mem_all hd hn))
theorem weights_struct {H : Type} {P : Program} {t : TypeId} {fs : Array Field} {ds : List (DataW H)} (ht : P.underlying t = some (.struct fs)) : (DataW.agg ds).weights P t = DataW.weightsEach P (fs.toList.map (·.type)) ds := by
  unfold DataW.weights
  rw [ht]
theorem weights_array {H : Type} {P : Program} {t e : TypeId} {n : Nat} {ds : List (DataW H)} (ht : P.underlying t = some (.array n e)) : (DataW.agg ds).weights P t = DataW.weightsAll P e ds := by
  unfold DataW.weights
  rw [ht]
theorem weights_slice {H : Type} {P : Program} {t e : TypeId} {ds sp : List (DataW H)} (ht : P.underlying t = some (.slice e)) : (DataW.slice ds sp).weights P t = (ds.length + sp.length) * P.bytesOf e :: (DataW.weightsAll P e ds ++ DataW.weightsAll P e sp) := by
  unfold DataW.weights
  rw [ht]
theorem flat_len {α : Type} {f : α → List Value} {sz : Nat} : ∀ {ys : List α}, (∀ y ∈ ys, (f y).length = sz) → (ys.flatMap f).length = ys.length * sz
  | [], _ => by simp
  | z :: r, h => by
    rw [List.flatMap_cons, List.length_append, h z (by simp), flat_len (fun y hy => h y (by simp [hy])), List.length_cons, Nat.succ_mul]
    omega
section
variable {H : Type} {enc : TypeId × Value → H}

/-- The cells cs read as a datum of type t, through blocks below B, each length within the form's reach. -/
def Rdg (enc : TypeId × Value → H) (w : World) (B : Nat) (t : TypeId) (cs : List Value) : Prop :=
  ∃ (fuel : Nat) (x : DataW H × List MemPlace), DataW.trod enc Tryz.prog w 0 (fun _ => true) true fuel t cs = some x ∧ (∀ p ∈ x.2, p.block < B) ∧ ∀ n ∈ x.1.weights Tryz.prog t, n ≤ reachBytes
variable {w : World} {B : Nat} {t : TypeId} {cs : List Value}

theorem Rdg.int {k : IntKind} (h : Rdg enc w B t cs) (ht : Tryz.prog.underlying t = some (.int k)) : ∃ n, cs = [.int k n] ∧ (Lit.int k n).wf = true := by
  obtain ⟨fuel, x, hx, _, _⟩ := h
  obtain ⟨n, h1, _, h2⟩ := DataW.trod_int ht hx
  exact ⟨n, h1, h2⟩
theorem Rdg.bool (h : Rdg enc w B t cs) (ht : Tryz.prog.underlying t = some .bool) : ∃ b, cs = [.bool b] := by
  obtain ⟨fuel, x, hx, _, _⟩ := h
  obtain ⟨b, h1, _⟩ := DataW.trod_bool ht hx
  exact ⟨b, h1⟩
theorem Rdg.string (h : Rdg enc w B t cs) (ht : Tryz.prog.underlying t = some .string) : ∃ s : ByteArray, cs = [.string s] ∧ s.size ≤ maxLen := by
  obtain ⟨fuel, x, hx, _, _⟩ := h
  obtain ⟨s, h1, _, h2⟩ := DataW.trod_string ht hx
  exact ⟨s, h1, h2⟩
theorem Rdg.struct {fs : Array Field} (h : Rdg enc w B t cs) (ht : Tryz.prog.underlying t = some (.struct fs)) :
    cs.length = Tryz.prog.cellsOf t ∧ ∀ (i : Nat) (f : Field), fs[i]? = some f → Rdg enc w B f.type ((cs.drop f.offset).take (Tryz.prog.cellsOf f.type)) := by
  obtain ⟨fuel, x, hx, hp, hw⟩ := h
  obtain ⟨xs, n, _, rfl, hlen, hxl, hf⟩ := DataW.trod_struct ht hx
  simp only at hp hw
  refine ⟨hlen, fun i f hi => ?_⟩
  have hil : i < fs.size := (Array.getElem?_eq_some_iff.1 hi).1
  have hix : xs[i]? = some (xs[i]'(by omega)) := List.getElem?_eq_getElem (by omega)
  refine ⟨n, xs[i]'(by omega), by rw [← hix]; exact hf i f hi, fun p hpp => hp p ?_, fun m hm => hw m ?_⟩
  · exact List.mem_flatMap.2 ⟨_, List.getElem_mem (by omega), hpp⟩
  · rw [weights_struct ht]
    refine DataW.weights_mem_each (j := i) (t := f.type) (d := (xs[i]'(by omega)).1) ?_ ?_ m hm
    · rw [List.getElem?_map, Array.getElem?_toList, hi]; rfl
    · rw [List.getElem?_map, hix]; rfl
theorem Rdg.array {n : Nat} {e : TypeId} (h : Rdg enc w B t cs) (ht : Tryz.prog.underlying t = some (.array n e)) :
    cs.length = Tryz.prog.cellsOf t ∧ ∀ i, i < n → Rdg enc w B e ((cs.drop (i * Tryz.prog.cellsOf e)).take (Tryz.prog.cellsOf e)) := by
  obtain ⟨fuel, x, hx, hp, hw⟩ := h
  obtain ⟨xs, m, _, rfl, hlen, hxl, hf⟩ := DataW.trod_array ht hx
  simp only at hp hw
  refine ⟨hlen, fun i hi => ?_⟩
  have hix : xs[i]? = some (xs[i]'(by omega)) := List.getElem?_eq_getElem (by omega)
  refine ⟨m, xs[i]'(by omega), by rw [← hix]; exact hf i hi, fun p hpp => hp p ?_, fun k hk => hw k ?_⟩
  · exact List.mem_flatMap.2 ⟨_, List.getElem_mem (by omega), hpp⟩
  · rw [weights_array ht]
    exact weights_mem_all (List.mem_map.2 ⟨_, List.getElem_mem (by omega), rfl⟩) hk
/-- A slice: its elements, each read. -/
theorem Rdg.slice {e : TypeId} (h : Rdg enc w B t cs) (ht : Tryz.prog.underlying t = some (.slice e)) :
    ∃ (A : Option Addr) (n c : Nat), cs = [.slice A n c] ∧ n ≤ c ∧ c ≤ maxLen ∧ (A = none → c = 0) ∧ n * Tryz.prog.bytesOf e ≤ reachBytes ∧
      ∀ i, i < n → ∃ a cs', A = some a ∧ w.cells? 0 (a.add (i * Tryz.prog.cellsOf e)) (Tryz.prog.cellsOf e) = some cs' ∧ (0 < Tryz.prog.cellsOf e → a.block < B) ∧ Rdg enc w B e cs' := by
  obtain ⟨fuel, x, hx, hp, hw⟩ := h
  rcases open_slice ht hx with ⟨rfl, rfl⟩ | ⟨a, len, cap, m, n, D, Pl, rfl, _, hl, hm, hmm, rfl, hi⟩
  · exact ⟨none, 0, 0, rfl, Nat.le_refl _, Nat.zero_le _, fun _ => rfl, by simp, fun i hi => absurd hi (by omega)⟩
  · have hmc : m = cap := by simpa using hmm
    subst hmc
    simp only at hp hw
    refine ⟨some a, len, m, rfl, hl, hm, (fun h => nomatch h), ?_, fun i hil => ?_⟩
    · have := hw ((((List.range len).map D).length + ((List.range (m - len)).map fun j => D (len + j)).length) * Tryz.prog.bytesOf e) (by
        rw [weights_slice ht]
        exact List.mem_cons_self)
      simp at this
      exact Nat.le_trans (Nat.mul_le_mul_right _ (by omega)) this
    · obtain ⟨cs', hc, htr⟩ := hi i (by omega)
      refine ⟨a, cs', rfl, hc, fun hpos => hp (.cell a.block a.off) ?_, n, _, htr, fun p hpp => hp p ?_, fun k hk => hw k ?_⟩
      · refine List.mem_append.2 (.inl ?_)
        unfold MemPlace.row
        refine List.mem_map.2 ⟨0, List.mem_range.2 (Nat.mul_pos (by omega) hpos), rfl⟩
      · exact List.mem_append.2 (.inr (List.mem_flatMap.2 ⟨i, List.mem_range.2 (by omega), hpp⟩))
      · rw [weights_slice ht]
        refine List.mem_cons_of_mem _ (List.mem_append.2 (.inl (weights_mem_all (List.mem_map.2 ⟨i, List.mem_range.2 hil, rfl⟩) hk)))
/-- A slice whose elements are laid as f says. -/
theorem Rdg.rows {e : TypeId} (h : Rdg enc w B t cs) (ht : Tryz.prog.underlying t = some (.slice e)) {sz : Nat} (hsz : Tryz.prog.cellsOf e = sz) (hpos : 0 < sz) {α : Type} (f : α → List Value) (R : α → Prop) (hel : ∀ cs', Rdg enc w B e cs' → ∃ y, cs' = f y ∧ R y) :
    ∃ (A : Option Addr) (c : Nat) (ys : List α), cs = [.slice A ys.length c] ∧ Sl w B sz A ys.length c (ys.flatMap f) ∧ ys.length * Tryz.prog.bytesOf e ≤ reachBytes ∧ ∀ y ∈ ys, R y := by
  obtain ⟨A, n, c, rfl, hl, hm, hnil, hb, hi⟩ := h.slice ht
  rw [hsz] at hi
  have key : ∀ k, k ≤ n → ∃ ys : List α, ys.length = k ∧ (∀ y ∈ ys, R y) ∧ (∀ y ∈ ys, (f y).length = sz) ∧ ∀ a, A = some a → ∀ j u, (ys.flatMap f)[j]? = some u → w.cell? (a.add j) = some u := by
    intro k
    induction k with
    | zero => intro _; exact ⟨[], rfl, by simp, by simp, by simp⟩
    | succ k ih =>
      intro hk
      obtain ⟨ys, h1, h2, h3, h4⟩ := ih (by omega)
      obtain ⟨a, cs', ha, hc, _, hr⟩ := hi k (by omega)
      obtain ⟨y, rfl, hy⟩ := hel cs' hr
      obtain ⟨_, hcl, hat⟩ := World.cells?_some hc
      refine ⟨ys ++ [y], by simp [h1], ?_, ?_, ?_⟩
      · intro z hz
        rcases List.mem_append.1 hz with hz | hz
        · exact h2 z hz
        · rw [List.mem_singleton.1 hz]; exact hy
      · intro z hz
        rcases List.mem_append.1 hz with hz | hz
        · exact h3 z hz
        · rw [List.mem_singleton.1 hz]; exact hcl
      · intro a' ha' j u hu
        rw [ha] at ha'
        cases ha'
        have hlen : (ys.flatMap f).length = k * sz := by rw [flat_len h3, h1]
        rw [List.flatMap_append] at hu
        by_cases hj : j < k * sz
        · rw [List.getElem?_append_left (by rw [hlen]; exact hj)] at hu
          exact h4 a ha j u hu
        · rw [List.getElem?_append_right (by rw [hlen]; omega), hlen] at hu
          simp only [List.flatMap_cons, List.flatMap_nil, List.append_nil] at hu
          have hj2 : j - k * sz < sz := by
            have := (List.getElem?_eq_some_iff.1 hu).1
            omega
          have := hat (j - k * sz) hj2
          rw [add_add, show k * sz + (j - k * sz) = j by omega] at this
          rw [this]
          exact hu
  obtain ⟨ys, h1, h2, h3, h4⟩ := key n (Nat.le_refl _)
  subst h1
  have hlen : (ys.flatMap f).length = ys.length * sz := flat_len h3
  refine ⟨A, c, ys, rfl, ⟨hlen, hl, hm, hnil, fun hn => ?_⟩, hb, h2⟩
  obtain ⟨a, cs', ha, hc, hB, _⟩ := hi 0 hn
  obtain ⟨_, hcl, hat⟩ := World.cells?_some hc
  have h0 := hat 0 hpos
  have hsp : w.cell? (a.add 0) = some (cs'[0]'(by omega)) := by
    rw [Nat.zero_mul, add_add] at h0
    rw [h0]
    exact List.getElem?_eq_getElem (by omega)
  obtain ⟨b, off, spot⟩ := a
  have hspot : spot = none := by simpa [Addr.add] using World.cell?_spot hsp
  subst hspot
  refine ⟨b, off, ha, hB hpos, fun j u hu => ?_⟩
  have := h4 _ ha j u hu
  rwa [show (⟨b, off, none⟩ : Addr).add j = ⟨b, off + j, none⟩ from Addr.add_lit ..] at this
end
end Go.Proofs.YtmpbhngjkbidcaaGreatDoor

/-
  How the laws' arguments read.
-/
namespace Go.Proofs.YtmpbhngjkbidcaaGreatDoor
open Go.RowKit Al

theorem cInt : Tryz.prog.cellsOf 3 = 1 := by kernel_rfl
theorem cStr : Tryz.prog.cellsOf 9 = 1 := by kernel_rfl
theorem cBool : Tryz.prog.cellsOf 4 = 1 := by kernel_rfl
theorem cChance : Tryz.prog.cellsOf 43 = 2 := by kernel_rfl
theorem cInts : Tryz.prog.cellsOf 32 = 1 := by kernel_rfl
theorem cAlert : Tryz.prog.cellsOf 55 = 9 := by kernel_rfl
theorem cKey : Tryz.prog.cellsOf 94 = 2 := by kernel_rfl
theorem cKeys : Tryz.prog.cellsOf 31 = 1 := by kernel_rfl
theorem cSig : Tryz.prog.cellsOf 123 = 2 := by kernel_rfl
theorem cSigs : Tryz.prog.cellsOf 70 = 1 := by kernel_rfl
theorem cRoll : Tryz.prog.cellsOf 36 = 2 := by kernel_rfl
theorem cNotice : Tryz.prog.cellsOf 72 = 10 := by kernel_rfl
theorem bInt : Tryz.prog.bytesOf 3 = 8 := by kernel_rfl
theorem bKey : Tryz.prog.bytesOf 94 = 16 := by kernel_rfl
theorem bSig : Tryz.prog.bytesOf 123 = 16 := by kernel_rfl
theorem list2 {l : List Value} (h : l.length = 2) : ∃ a b, l = [a, b] := by
  match l, h with
  | [a, b], _ => exact ⟨a, b, rfl⟩
theorem list9 {l : List Value} (h : l.length = 9) : ∃ c0 c1 c2 c3 c4 c5 c6 c7 c8, l = [c0, c1, c2, c3, c4, c5, c6, c7, c8] := by
  match l, h with
  | [c0, c1, c2, c3, c4, c5, c6, c7, c8], _ => exact ⟨_, _, _, _, _, _, _, _, _, rfl⟩
theorem list10 {l : List Value} (h : l.length = 10) : ∃ c0 c1 c2 c3 c4 c5 c6 c7 c8 c9, l = [c0, c1, c2, c3, c4, c5, c6, c7, c8, c9] := by
  match l, h with
  | [c0, c1, c2, c3, c4, c5, c6, c7, c8, c9], _ => exact ⟨_, _, _, _, _, _, _, _, _, _, rfl⟩
theorem reach47 : reachBytes ≤ 140737488355328 := by decide

section
variable {H : Type} {enc : TypeId × Value → H} {w : World} {B : Nat} {cs : List Value}
theorem ints_open (h : Rdg enc w B 32 cs) : ∃ (A : Option Addr) (c : Nat) (l : List Int), cs = [.slice A l.length c] ∧ Sl w B 1 A l.length c (ints l) ∧ l.length * 8 ≤ 140737488355328 ∧ ∀ n ∈ l, (Lit.int .i64 n).wf = true := by
  obtain ⟨A, c, ys, h1, h2, h3, h4⟩ := h.rows Tryz.underlying32 cInt (by decide) (fun n : Int => [.int .i64 n]) (fun n => (Lit.int .i64 n).wf = true) (fun cs' hc => by
    obtain ⟨n, hn, hw⟩ := hc.int Tryz.underlying3
    exact ⟨n, hn, hw⟩)
  rw [bInt] at h3
  refine ⟨A, c, ys, h1, ?_, Nat.le_trans h3 reach47, h4⟩
  have e : ys.flatMap (fun n : Int => [Value.int .i64 n]) = ints ys := by
    clear h1 h2 h3 h4
    induction ys with
    | nil => rfl
    | cons y r ih => rw [List.flatMap_cons, ih]; rfl
  rw [e] at h2
  exact h2
theorem pair_open {t : TypeId} {f1 f2 : Field} (hu : Tryz.prog.underlying t = some (.struct #[f1, f2])) (h1 : f1.type = 3 ∧ f1.offset = 0) (h2 : f2.type = 3 ∧ f2.offset = 1) (hc : Tryz.prog.cellsOf t = 2) (h : Rdg enc w B t cs) :
    ∃ k : Int × Int, cs = [.int .i64 k.1, .int .i64 k.2] ∧ (Lit.int .i64 k.1).wf = true ∧ (Lit.int .i64 k.2).wf = true := by
  obtain ⟨hl, hf⟩ := h.struct hu
  rw [hc] at hl
  obtain ⟨a, b, rfl⟩ := list2 hl
  have ha := hf 0 f1 rfl
  have hb := hf 1 f2 rfl
  rw [h1.1, h1.2, cInt] at ha
  rw [h2.1, h2.2, cInt] at hb
  obtain ⟨x, hx, wx⟩ := ha.int Tryz.underlying3
  obtain ⟨y, hy, wy⟩ := hb.int Tryz.underlying3
  simp at hx hy
  exact ⟨(x, y), by rw [hx, hy], wx, wy⟩
theorem key_open (h : Rdg enc w B 94 cs) : ∃ k : Int × Int, cs = [.int .i64 k.1, .int .i64 k.2] ∧ (Lit.int .i64 k.1).wf = true ∧ (Lit.int .i64 k.2).wf = true :=
  pair_open Tryz.underlying94 ⟨rfl, rfl⟩ ⟨rfl, rfl⟩ cKey h
theorem sig_open (h : Rdg enc w B 123 cs) : ∃ k : Int × Int, cs = [.int .i64 k.1, .int .i64 k.2] ∧ (Lit.int .i64 k.1).wf = true ∧ (Lit.int .i64 k.2).wf = true :=
  pair_open Tryz.underlying123 ⟨rfl, rfl⟩ ⟨rfl, rfl⟩ cSig h
theorem keys_open (h : Rdg enc w B 31 cs) : ∃ (A : Option Addr) (c : Nat) (l : List (Int × Int)), cs = [.slice A l.length c] ∧ Sl w B 2 A l.length c (keyCells l) := by
  obtain ⟨A, c, ys, h1, h2, _, _⟩ := h.rows Tryz.underlying31 cKey (by decide) (fun k : Int × Int => [.int .i64 k.1, .int .i64 k.2]) (fun _ => True) (fun cs' hc => by
    obtain ⟨n, hn, _⟩ := key_open hc
    exact ⟨n, hn, trivial⟩)
  exact ⟨A, c, ys, h1, h2⟩
theorem sigs_open (h : Rdg enc w B 70 cs) : ∃ (A : Option Addr) (c : Nat) (l : List (Int × Int)), cs = [.slice A l.length c] ∧ Sl w B 2 A l.length c (keyCells l) ∧ l.length * 16 ≤ 140737488355328 := by
  obtain ⟨A, c, ys, h1, h2, h3, _⟩ := h.rows Tryz.underlying70 cSig (by decide) (fun k : Int × Int => [.int .i64 k.1, .int .i64 k.2]) (fun _ => True) (fun cs' hc => by
    obtain ⟨n, hn, _⟩ := sig_open hc
    exact ⟨n, hn, trivial⟩)
  rw [bSig] at h3
  exact ⟨A, c, ys, h1, h2, Nat.le_trans h3 reach47⟩
theorem roll_open (h : Rdg enc w B 36 cs) : ∃ (A : Option Addr) (c : Nat) (l : List (Int × Int)) (q : Int), cs = [.slice A l.length c, .int .i64 q] ∧ Sl w B 2 A l.length c (keyCells l) := by
  obtain ⟨hl, hf⟩ := h.struct Tryz.underlying36
  rw [cRoll] at hl
  obtain ⟨a, b, rfl⟩ := list2 hl
  have ha : Rdg enc w B 31 ((([a, b] : List Value).drop 0).take (Tryz.prog.cellsOf 31)) := hf 0 _ rfl
  have hb : Rdg enc w B 3 ((([a, b] : List Value).drop 1).take (Tryz.prog.cellsOf 3)) := hf 1 _ rfl
  rw [cKeys] at ha
  rw [cInt] at hb
  obtain ⟨A, c, l, hx, hs⟩ := keys_open ha
  obtain ⟨q, hq, _⟩ := hb.int Tryz.underlying3
  simp at hx hq
  exact ⟨A, c, l, q, by rw [hx, hq], hs⟩
/-- The numbers of an alert are numbers of 64 bits. -/
structure AWf (a : Alr) : Prop where
  ver : (Lit.int .i64 a.ver).wf = true
  tm : (Lit.int .i64 a.tm).wf = true
  n : (Lit.int .i64 a.n).wf = true
  of : (Lit.int .i64 a.of).wf = true
  grid : (Lit.int .i64 a.grid).wf = true
  before : (Lit.int .i64 a.before).wf = true
theorem alr_open (h : Rdg enc w B 55 cs) : ∃ (a : Alr) (A : Option Addr) (c : Nat), cs = a.lst A c ∧ a.ev.size ≤ maxLen ∧ Sl w B 1 A a.cells.length c (ints a.cells) ∧ a.cells.length * 8 ≤ 140737488355328 ∧ AWf a := by
  obtain ⟨hl, hf⟩ := h.struct Tryz.underlying55
  rw [cAlert] at hl
  obtain ⟨c0, c1, c2, c3, c4, c5, c6, c7, c8, rfl⟩ := list9 hl
  have h0 : Rdg enc w B 9 ((([c0, c1, c2, c3, c4, c5, c6, c7, c8] : List Value).drop 0).take (Tryz.prog.cellsOf 9)) := hf 0 _ rfl
  rw [cStr] at h0
  have h1 : Rdg enc w B 3 ((([c0, c1, c2, c3, c4, c5, c6, c7, c8] : List Value).drop 1).take (Tryz.prog.cellsOf 3)) := hf 1 _ rfl
  rw [cInt] at h1
  have h2 : Rdg enc w B 3 ((([c0, c1, c2, c3, c4, c5, c6, c7, c8] : List Value).drop 2).take (Tryz.prog.cellsOf 3)) := hf 2 _ rfl
  rw [cInt] at h2
  have h3 : Rdg enc w B 43 ((([c0, c1, c2, c3, c4, c5, c6, c7, c8] : List Value).drop 3).take (Tryz.prog.cellsOf 43)) := hf 3 _ rfl
  rw [cChance] at h3
  have h5 : Rdg enc w B 3 ((([c0, c1, c2, c3, c4, c5, c6, c7, c8] : List Value).drop 5).take (Tryz.prog.cellsOf 3)) := hf 4 _ rfl
  rw [cInt] at h5
  have h6 : Rdg enc w B 32 ((([c0, c1, c2, c3, c4, c5, c6, c7, c8] : List Value).drop 6).take (Tryz.prog.cellsOf 32)) := hf 5 _ rfl
  rw [cInts] at h6
  have h7 : Rdg enc w B 4 ((([c0, c1, c2, c3, c4, c5, c6, c7, c8] : List Value).drop 7).take (Tryz.prog.cellsOf 4)) := hf 6 _ rfl
  rw [cBool] at h7
  have h8 : Rdg enc w B 3 ((([c0, c1, c2, c3, c4, c5, c6, c7, c8] : List Value).drop 8).take (Tryz.prog.cellsOf 3)) := hf 7 _ rfl
  rw [cInt] at h8
  obtain ⟨ev, e0, hev⟩ := h0.string Tryz.underlying9
  obtain ⟨ver, e1, w1⟩ := h1.int Tryz.underlying3
  obtain ⟨tm, e2, w2⟩ := h2.int Tryz.underlying3
  obtain ⟨k, e3, w3, w4⟩ := pair_open Tryz.underlying43 ⟨rfl, rfl⟩ ⟨rfl, rfl⟩ cChance h3
  obtain ⟨g, e5, w5⟩ := h5.int Tryz.underlying3
  obtain ⟨A, c, l, e6, hs, hb, _⟩ := ints_open h6
  obtain ⟨wd, e7⟩ := h7.bool Tryz.underlying4
  obtain ⟨bf, e8, w8⟩ := h8.int Tryz.underlying3
  simp at e0 e1 e2 e3 e5 e6 e7 e8
  exact ⟨⟨ev, ver, tm, k.1, k.2, g, l, wd, bf⟩, A, c, by rw [e0, e1, e2, e3.1, e3.2, e5, e6, e7, e8], hev, hs, hb, ⟨w1, w2, w3, w4, w5, w8⟩⟩
/-- A notice lies below B. -/
structure NtB (w : World) (B : Nat) (x : It) : Prop where
  ev : x.n.a.ev.size ≤ maxLen
  cells : Sl w B 1 x.A x.n.a.cells.length x.c (ints x.n.a.cells)
  sigs : Sl w B 2 x.S x.n.sg.length x.sc (keyCells x.n.sg)
  few : x.n.a.cells.length * 8 ≤ 140737488355328
  few2 : x.n.sg.length * 16 ≤ 140737488355328
  wf : AWf x.n.a
theorem ntc_open (h : Rdg enc w B 72 cs) : ∃ x : It, cs = x.lst ∧ NtB w B x := by
  obtain ⟨hl, hf⟩ := h.struct Tryz.underlying72
  rw [cNotice] at hl
  obtain ⟨c0, c1, c2, c3, c4, c5, c6, c7, c8, c9, rfl⟩ := list10 hl
  have h0 : Rdg enc w B 55 ((([c0, c1, c2, c3, c4, c5, c6, c7, c8, c9] : List Value).drop 0).take (Tryz.prog.cellsOf 55)) := hf 0 _ rfl
  have h1 : Rdg enc w B 70 ((([c0, c1, c2, c3, c4, c5, c6, c7, c8, c9] : List Value).drop 9).take (Tryz.prog.cellsOf 70)) := hf 1 _ rfl
  rw [cAlert] at h0
  rw [cSigs] at h1
  obtain ⟨a, A, c, e0, hev, hs, hb, hw⟩ := alr_open h0
  obtain ⟨S, sc, sg, e1, hs2, hb2⟩ := sigs_open h1
  simp at e0 e1
  obtain ⟨e0, e2, e3, e4, e5, e6, e7, e8, e9⟩ := e0
  exact ⟨⟨⟨a, sg⟩, A, c, S, sc⟩, by rw [e0, e2, e3, e4, e5, e6, e7, e8, e9, e1]; rfl, hev, hs, hs2, hb, hb2, hw⟩
end
end Go.Proofs.YtmpbhngjkbidcaaGreatDoor
