/-
  Words for memory: a slice that reads as a list of cells; how it is kept.
-/
import Derived.WalkKit
import Derived.WalkSmall
import Derived.Laws.OwnMore
import Derived.Lib.Hide
import Derived.Deep.Slices
import Derived.ChangeSame
import Derived.ChangeArms
import Derived.SizedLaws
import Derived.OpenShut
import Derived.Test.YtohfofecbdfkgaaGreatDoorProg
import Derived.Shelf.Strings.Builder1
import Derived.Shelf.Small.Strs
import Derived.Shelf.Strings.BuilderF
import Derived.Shelf.Strings.BuilderK
import Derived.Shelf.Strconv.Itoa0
import Derived.Shelf.Strconv.Itoa1
import Derived.Shelf.LaysM
import Derived.Shelf.Strconv.Itoa2
import Derived.Shelf.Strconv.Itoa3
import Derived.Shelf.Strings.Search1
import Derived.Shelf.Strings.Search2
import Derived.Shelf.Strings.Search3
import Derived.Shelf.Strings.Count
import Derived.Shelf.Strings.Shaped
import Derived.Shelf.Unicode.DecodeSlow
import Derived.Shelf.Strings.BuilderCap
import Derived.Ground.Names2Prog
import Derived.Shelf.Slices.Clone
import Derived.Lib.ItoaNum
import Derived.WalkSpells
import Derived.Deep.QuietTactic
import Derived.BigQuiet
import Derived.KernelRfl
import Derived.LoopTactic
import Derived.Deep.RegionWith
namespace Go.Proofs.YtohfofecbdfkgaaGreatDoor
open Go.RowKit

/-- The slice '.slice A n c' reads as the cells xs (sz cells an element), which lie below block B. -/
structure Sl (w : World) (B sz : Nat) (A : Option Addr) (n c : Nat) (xs : List Value) : Prop where
  len : xs.length = n * sz
  cap : n ≤ c
  max : c ≤ maxLen
  nil_ : A = none → c = 0
  at_ : 0 < n → ∃ b off, A = some ⟨b, off, none⟩ ∧ b < B ∧ ∀ j u, xs[j]? = some u → w.cell? ⟨b, off + j, none⟩ = some u

theorem Sl.keep {w w' : World} {B sz n c : Nat} {A : Option Addr} {xs : List Value} (h : Sl w B sz A n c xs) (hk : ∀ b o, b < B → w'.cell? ⟨b, o, none⟩ = w.cell? ⟨b, o, none⟩) : Sl w' B sz A n c xs :=
  ⟨h.len, h.cap, h.max, h.nil_, fun hn => by
    obtain ⟨b, off, e, hb, hc⟩ := h.at_ hn
    exact ⟨b, off, e, hb, fun j u hu => (hk _ _ hb).trans (hc j u hu)⟩⟩
theorem Sl.more {w : World} {B B' sz n c : Nat} {A : Option Addr} {xs : List Value} (h : Sl w B sz A n c xs) (hB : B ≤ B') : Sl w B' sz A n c xs :=
  ⟨h.len, h.cap, h.max, h.nil_, fun hn => by
    obtain ⟨b, off, e, hb, hc⟩ := h.at_ hn
    exact ⟨b, off, e, by omega, hc⟩⟩
theorem Sl.below {w w' : World} {B sz n c : Nat} {A : Option Addr} {xs : List Value} (h : Sl w B sz A n c xs) (hb : Below B w w') : Sl w' B sz A n c xs :=
  h.keep fun b o hlt => hb.cell (p := ⟨b, o, none⟩) hlt
theorem Sl.alloc {w : World} {B sz n c : Nat} {A : Option Addr} {xs : List Value} (h : Sl w B sz A n c xs) (hB : B ≤ w.heap.size) (o : Obj) : Sl (w.alloc o) B sz A n c xs :=
  h.below ((Below.refl _ _).alloc hB o)
theorem Sl.drewN {w : World} {B sz n c : Nat} {A : Option Addr} {xs : List Value} (h : Sl w B sz A n c xs) (k : Nat) : Sl (w.drewN k) B sz A n c xs := h.below (below_drewN (Below.refl _ _) k)
theorem Sl.nilS (w : World) (B sz : Nat) : Sl w B sz none 0 0 [] := ⟨by simp, Nat.le_refl _, Nat.zero_le _, fun _ => rfl, fun h => absurd h (by omega)⟩
theorem Sl.of_own {w : World} {base e sz n c : Nat} {A : Option Addr} {xs : List Value} (h : w.ownsRow base e sz (.slice A n c) n xs) : Sl w w.heap.size sz A n c xs := by
  rcases h.2 with ⟨hv, hn⟩ | ⟨g, cap, cur, hv, hg, hh, hnc, hcm, hcs, htake⟩
  · injection hv with e1 e2 e3
    subst e1 e2 e3
    exact ⟨h.1, Nat.le_refl _, Nat.zero_le _, fun _ => rfl, fun h => absurd h (by omega)⟩
  · injection hv with e1 e2 e3
    subst e1 e3
    refine ⟨h.1, hnc, hcm, (fun h => by cases h), fun _ => ⟨g, 0, rfl, (Array.getElem?_eq_some_iff.1 hh).1, fun j u hu => ?_⟩⟩
    have := World.ownsRow.cells h (g := g) rfl j u hu
    rw [Addr.add_lit] at this
    exact this

/-- The cells of a list of ints. -/
def ints (l : List Int) : List Value := l.map (Value.int .i64)
theorem ints_at {l : List Int} {k : Nat} (h : k < l.length) : (ints l)[k]? = some (.int .i64 l[k]) := by simp [ints, h]
theorem ints_len (l : List Int) : (ints l).length = l.length := by simp [ints]
/-- The cell of an int of a slice. -/
theorem Sl.int_at {w : World} {B n c : Nat} {A : Option Addr} {l : List Int} (h : Sl w B 1 A n c (ints l)) {k : Nat} (hk : k < n) (hl : k < l.length) : ∃ b off, A = some ⟨b, off, none⟩ ∧ b < B ∧ w.cell? ⟨b, off + k, none⟩ = some (.int .i64 l[k]) := by
  obtain ⟨b, off, e, hb, hc⟩ := h.at_ (by omega)
  exact ⟨b, off, e, hb, hc k _ (ints_at hl)⟩
theorem bcell {W w1 : World} {B : Nat} (hb : Below B W w1) : (∀ b o, b < B → w1.cell? ⟨b, o, none⟩ = W.cell? ⟨b, o, none⟩) ∧ (∀ b o, b < B → w1.frozen? ⟨b, o, none⟩ = W.frozen? ⟨b, o, none⟩) :=
  ⟨fun b o h => hb.cell (p := ⟨b, o, none⟩) h, fun b o h => hb.frozen (p := ⟨b, o, none⟩) h⟩

/-- A quiet call behind draws. -/
theorem quietAdd {P : Program} {f : FuncId} {args : Array Value} {w : World} {a n : Nat} {v : Value}
    (h : Calls P f args (w.drewN (a + n)) fun e w' => e = .returned v ∧ w.drewN (a + n) = w') :
    Calls P f args (w.drewN (a + n)) fun e w'' => e = .returned v ∧ ∃ m, w'' = w.drewN (a + m) :=
  h.mono fun _ _ ⟨he, hm⟩ => ⟨he, n, hm.symm⟩
theorem quiet0 {P : Program} {f : FuncId} {args : Array Value} {w : World} {n : Nat} {v : Value}
    (h : Calls P f args (w.drewN n) fun e w' => e = .returned v ∧ w.drewN n = w') :
    Calls P f args (w.drewN n) fun e w'' => e = .returned v ∧ ∃ m, w'' = w.drewN m :=
  h.mono fun _ _ ⟨he, hm⟩ => ⟨he, n, hm.symm⟩

theorem own_below {w w' : World} {base e sz : Nat} {v : Value} {n : Nat} {xs : List Value} (h : w.ownsRow base e sz v n xs) {B : Nat} (hB : w.heap.size ≤ B) (hb : Below B w w') : w'.ownsRow base e sz v n xs := by
  refine ⟨h.1, ?_⟩
  rcases h.2 with h2 | ⟨g, cap, cur, hv, hg, hh, r⟩
  · exact .inl h2
  · have hlt : g < w.heap.size := (Array.getElem?_eq_some_iff.1 hh).1
    exact .inr ⟨g, cap, cur, hv, hg, by rw [hb.block g (by omega)]; exact hh, r⟩

end Go.Proofs.YtohfofecbdfkgaaGreatDoor

/-
  How an argument reads: its cells, opened by its type; what every law's frame needs.
-/
namespace Go.Proofs.YtohfofecbdfkgaaGreatDoor
open Go.RowKit Go.ChangeShapes Go.WideShapes Go.Deep

theorem weights_mem_all {H : Type} {P : Program} {e : TypeId} : ∀ {l : List (DataW H)} {d : DataW H} {n : Nat}, d ∈ l → n ∈ d.weights P e → n ∈ DataW.weightsAll P e l
  | d0 :: r, d, n, hd, hn => by
    unfold DataW.weightsAll
    rcases List.mem_cons.1 hd with rfl | hd
    · exact List.mem_append.2 (.inl hn)
    · exact List.mem_append.2 (.inr (weights_mem_all hd hn))
theorem weights_struct {H : Type} {P : Program} {t : TypeId} {fs : Array Field} {ds : List (DataW H)} (ht : P.underlying t = some (.struct fs)) : (DataW.agg ds).weights P t = DataW.weightsEach P (fs.toList.map (·.type)) ds := by
  unfold DataW.weights
  rw [ht]
theorem weights_array {H : Type} {P : Program} {t e : TypeId} {n : Nat} {ds : List (DataW H)} (ht : P.underlying t = some (.array n e)) : (DataW.agg ds).weights P t = DataW.weightsAll P e ds := by
  unfold DataW.weights
  rw [ht]
theorem weights_slice {H : Type} {P : Program} {t e : TypeId} {ds sp : List (DataW H)} (ht : P.underlying t = some (.slice e)) : (DataW.slice ds sp).weights P t = (ds.length + sp.length) * P.bytesOf e :: (DataW.weightsAll P e ds ++ DataW.weightsAll P e sp) := by
  unfold DataW.weights
  rw [ht]
theorem flat_len {α : Type} {f : α → List Value} {sz : Nat} : ∀ {ys : List α}, (∀ y ∈ ys, (f y).length = sz) → (ys.flatMap f).length = ys.length * sz
  | [], _ => by simp
  | z :: r, h => by
    rw [List.flatMap_cons, List.length_append, h z (by simp), flat_len (fun y hy => h y (by simp [hy])), List.length_cons, Nat.succ_mul]
    omega
section
variable {H : Type} {enc : TypeId × Value → H}

/-- The cells cs read as a datum of type t, through blocks below B, each length within the form's reach. -/
def Rdg (enc : TypeId × Value → H) (w : World) (B : Nat) (t : TypeId) (cs : List Value) : Prop :=
  ∃ (fuel : Nat) (x : DataW H × List MemPlace), DataW.trod enc Tryz.prog w 0 (fun _ => true) true fuel t cs = some x ∧ (∀ p ∈ x.2, p.block < B) ∧ ∀ n ∈ x.1.weights Tryz.prog t, n ≤ reachBytes
variable {w : World} {B : Nat} {t : TypeId} {cs : List Value}

theorem Rdg.int {k : IntKind} (h : Rdg enc w B t cs) (ht : Tryz.prog.underlying t = some (.int k)) : ∃ n, cs = [.int k n] ∧ (Lit.int k n).wf = true := by
  obtain ⟨fuel, x, hx, _, _⟩ := h
  obtain ⟨n, h1, _, h2⟩ := DataW.trod_int ht hx
  exact ⟨n, h1, h2⟩
theorem Rdg.bool (h : Rdg enc w B t cs) (ht : Tryz.prog.underlying t = some .bool) : ∃ b, cs = [.bool b] := by
  obtain ⟨fuel, x, hx, _, _⟩ := h
  obtain ⟨b, h1, _⟩ := DataW.trod_bool ht hx
  exact ⟨b, h1⟩
theorem Rdg.string (h : Rdg enc w B t cs) (ht : Tryz.prog.underlying t = some .string) : ∃ s : ByteArray, cs = [.string s] ∧ s.size ≤ maxLen := by
  obtain ⟨fuel, x, hx, _, _⟩ := h
  obtain ⟨s, h1, _, h2⟩ := DataW.trod_string ht hx
  exact ⟨s, h1, h2⟩
theorem Rdg.struct {fs : Array Field} (h : Rdg enc w B t cs) (ht : Tryz.prog.underlying t = some (.struct fs)) :
    cs.length = Tryz.prog.cellsOf t ∧ ∀ (i : Nat) (f : Field), fs[i]? = some f → Rdg enc w B f.type ((cs.drop f.offset).take (Tryz.prog.cellsOf f.type)) := by
  obtain ⟨fuel, x, hx, hp, hw⟩ := h
  obtain ⟨xs, n, _, rfl, hlen, hxl, hf⟩ := DataW.trod_struct ht hx
  simp only at hp hw
  refine ⟨hlen, fun i f hi => ?_⟩
  have hil : i < fs.size := (Array.getElem?_eq_some_iff.1 hi).1
  have hix : xs[i]? = some (xs[i]'(by omega)) := List.getElem?_eq_getElem (by omega)
  refine ⟨n, xs[i]'(by omega), by rw [← hix]; exact hf i f hi, fun p hpp => hp p ?_, fun m hm => hw m ?_⟩
  · exact List.mem_flatMap.2 ⟨_, List.getElem_mem (by omega), hpp⟩
  · rw [weights_struct ht]
    refine DataW.weights_mem_each (j := i) (t := f.type) (d := (xs[i]'(by omega)).1) ?_ ?_ m hm
    · rw [List.getElem?_map, Array.getElem?_toList, hi]; rfl
    · rw [List.getElem?_map, hix]; rfl
theorem Rdg.array {n : Nat} {e : TypeId} (h : Rdg enc w B t cs) (ht : Tryz.prog.underlying t = some (.array n e)) :
    cs.length = Tryz.prog.cellsOf t ∧ ∀ i, i < n → Rdg enc w B e ((cs.drop (i * Tryz.prog.cellsOf e)).take (Tryz.prog.cellsOf e)) := by
  obtain ⟨fuel, x, hx, hp, hw⟩ := h
  obtain ⟨xs, m, _, rfl, hlen, hxl, hf⟩ := DataW.trod_array ht hx
  simp only at hp hw
  refine ⟨hlen, fun i hi => ?_⟩
  have hix : xs[i]? = some (xs[i]'(by omega)) := List.getElem?_eq_getElem (by omega)
  refine ⟨m, xs[i]'(by omega), by rw [← hix]; exact hf i hi, fun p hpp => hp p ?_, fun k hk => hw k ?_⟩
  · exact List.mem_flatMap.2 ⟨_, List.getElem_mem (by omega), hpp⟩
  · rw [weights_array ht]
    exact weights_mem_all (List.mem_map.2 ⟨_, List.getElem_mem (by omega), rfl⟩) hk
/-- A slice: its elements, each read. -/
theorem Rdg.slice {e : TypeId} (h : Rdg enc w B t cs) (ht : Tryz.prog.underlying t = some (.slice e)) :
    ∃ (A : Option Addr) (n c : Nat), cs = [.slice A n c] ∧ n ≤ c ∧ c ≤ maxLen ∧ (A = none → c = 0) ∧ n * Tryz.prog.bytesOf e ≤ reachBytes ∧
      ∀ i, i < n → ∃ a cs', A = some a ∧ w.cells? 0 (a.add (i * Tryz.prog.cellsOf e)) (Tryz.prog.cellsOf e) = some cs' ∧ (0 < Tryz.prog.cellsOf e → a.block < B) ∧ Rdg enc w B e cs' := by
  obtain ⟨fuel, x, hx, hp, hw⟩ := h
  rcases open_slice ht hx with ⟨rfl, rfl⟩ | ⟨a, len, cap, m, n, D, Pl, rfl, _, hl, hm, hmm, rfl, hi⟩
  · exact ⟨none, 0, 0, rfl, Nat.le_refl _, Nat.zero_le _, fun _ => rfl, by simp, fun i hi => absurd hi (by omega)⟩
  · have hmc : m = cap := by simpa using hmm
    subst hmc
    simp only at hp hw
    refine ⟨some a, len, m, rfl, hl, hm, (fun h => nomatch h), ?_, fun i hil => ?_⟩
    · have := hw ((((List.range len).map D).length + ((List.range (m - len)).map fun j => D (len + j)).length) * Tryz.prog.bytesOf e) (by
        rw [weights_slice ht]
        exact List.mem_cons_self)
      simp at this
      exact Nat.le_trans (Nat.mul_le_mul_right _ (by omega)) this
    · obtain ⟨cs', hc, htr⟩ := hi i (by omega)
      refine ⟨a, cs', rfl, hc, fun hpos => hp (.cell a.block a.off) ?_, n, _, htr, fun p hpp => hp p ?_, fun k hk => hw k ?_⟩
      · refine List.mem_append.2 (.inl ?_)
        unfold MemPlace.row
        refine List.mem_map.2 ⟨0, List.mem_range.2 (Nat.mul_pos (by omega) hpos), rfl⟩
      · exact List.mem_append.2 (.inr (List.mem_flatMap.2 ⟨i, List.mem_range.2 (by omega), hpp⟩))
      · rw [weights_slice ht]
        refine List.mem_cons_of_mem _ (List.mem_append.2 (.inl (weights_mem_all (List.mem_map.2 ⟨i, List.mem_range.2 hil, rfl⟩) hk)))
/-- A slice whose elements are laid as f says. -/
theorem Rdg.rows {e : TypeId} (h : Rdg enc w B t cs) (ht : Tryz.prog.underlying t = some (.slice e)) {sz : Nat} (hsz : Tryz.prog.cellsOf e = sz) (hpos : 0 < sz) {α : Type} (f : α → List Value) (R : α → Prop) (hel : ∀ cs', Rdg enc w B e cs' → ∃ y, cs' = f y ∧ R y) :
    ∃ (A : Option Addr) (c : Nat) (ys : List α), cs = [.slice A ys.length c] ∧ Sl w B sz A ys.length c (ys.flatMap f) ∧ ys.length * Tryz.prog.bytesOf e ≤ reachBytes ∧ ∀ y ∈ ys, R y := by
  obtain ⟨A, n, c, rfl, hl, hm, hnil, hb, hi⟩ := h.slice ht
  rw [hsz] at hi
  have key : ∀ k, k ≤ n → ∃ ys : List α, ys.length = k ∧ (∀ y ∈ ys, R y) ∧ (∀ y ∈ ys, (f y).length = sz) ∧ ∀ a, A = some a → ∀ j u, (ys.flatMap f)[j]? = some u → w.cell? (a.add j) = some u := by
    intro k
    induction k with
    | zero => intro _; exact ⟨[], rfl, by simp, by simp, by simp⟩
    | succ k ih =>
      intro hk
      obtain ⟨ys, h1, h2, h3, h4⟩ := ih (by omega)
      obtain ⟨a, cs', ha, hc, _, hr⟩ := hi k (by omega)
      obtain ⟨y, rfl, hy⟩ := hel cs' hr
      obtain ⟨_, hcl, hat⟩ := World.cells?_some hc
      refine ⟨ys ++ [y], by simp [h1], ?_, ?_, ?_⟩
      · intro z hz
        rcases List.mem_append.1 hz with hz | hz
        · exact h2 z hz
        · rw [List.mem_singleton.1 hz]; exact hy
      · intro z hz
        rcases List.mem_append.1 hz with hz | hz
        · exact h3 z hz
        · rw [List.mem_singleton.1 hz]; exact hcl
      · intro a' ha' j u hu
        rw [ha] at ha'
        cases ha'
        have hlen : (ys.flatMap f).length = k * sz := by rw [flat_len h3, h1]
        rw [List.flatMap_append] at hu
        by_cases hj : j < k * sz
        · rw [List.getElem?_append_left (by rw [hlen]; exact hj)] at hu
          exact h4 a ha j u hu
        · rw [List.getElem?_append_right (by rw [hlen]; omega), hlen] at hu
          simp only [List.flatMap_cons, List.flatMap_nil, List.append_nil] at hu
          have hj2 : j - k * sz < sz := by
            have := (List.getElem?_eq_some_iff.1 hu).1
            omega
          have := hat (j - k * sz) hj2
          rw [add_add, show k * sz + (j - k * sz) = j by omega] at this
          rw [this]
          exact hu
  obtain ⟨ys, h1, h2, h3, h4⟩ := key n (Nat.le_refl _)
  subst h1
  have hlen : (ys.flatMap f).length = ys.length * sz := flat_len h3
  refine ⟨A, c, ys, rfl, ⟨hlen, hl, hm, hnil, fun hn => ?_⟩, hb, h2⟩
  obtain ⟨a, cs', ha, hc, hB, _⟩ := hi 0 hn
  obtain ⟨_, hcl, hat⟩ := World.cells?_some hc
  have h0 := hat 0 hpos
  have hsp : w.cell? (a.add 0) = some (cs'[0]'(by omega)) := by
    rw [Nat.zero_mul, add_add] at h0
    rw [h0]
    exact List.getElem?_eq_getElem (by omega)
  obtain ⟨b, off, spot⟩ := a
  have hspot : spot = none := by simpa [Addr.add] using World.cell?_spot hsp
  subst hspot
  refine ⟨b, off, ha, hB hpos, fun j u hu => ?_⟩
  have := h4 _ ha j u hu
  rwa [show (⟨b, off, none⟩ : Addr).add j = ⟨b, off + j, none⟩ from Addr.add_lit ..] at this
end
end Go.Proofs.YtohfofecbdfkgaaGreatDoor

/-
  DERIVED: THE SHELF's CONTRACTS AT THIS DUMP, IN PLAIN WORDS (tools/lay-plain.mjs out of 'TryzShelf.lean', which tools/lay-shelf.mjs wrote): THE SAME DECLARATIONS UNDER THE SAME NAMES: 'import', 'namespace', 'open', 'def', 'theorem' AND NOTHING ELSE: no command of the shelf's: FOR A HAND-IN. Each laying: the table of numbers ('.._ren') and one theorem, a field a fact of the dump's own or the kernel's comparison; each contract: ONE APPLICATION.
-/
namespace Go.Proofs
open Go.Shelf
def Tryz.lays169_ren : Go.Shelf.Ren := ⟨fun | 169 => 118 | n => n, fun | 70 => 152 | 9 => 9 | 0 => 0 | 72 => 154 | 37 => 140 | 127 => 172 | 3 => 3 | 5 => 5 | n => n, fun | n => n⟩
theorem Tryz.lays169 : Go.Proofs.Lays.n169 Tryz.prog Tryz.lays169_ren := {
  mixed := by kernel_rfl
  f169 := Tryz.func118.trans (congrArg some (by kernel_rfl))
  t0 := Tryz.underlying0
  a0 := Tryz.isAgg0
  z0 := Tryz.sizeOf0
  v0 := Tryz.zeroValue0
  t3 := Tryz.underlying3
  a3 := Tryz.isAgg3
  z3 := Tryz.sizeOf3
  v3 := Tryz.zeroValue3
  t9 := Tryz.underlying9
  a9 := Tryz.isAgg9
  z9 := Tryz.sizeOf9
  v9 := Tryz.zeroValue9
  t37 := Tryz.underlying140
  a37 := Tryz.isAgg140
  z37 := Tryz.sizeOf140
  v37 := Tryz.zeroValue140
  t70 := Tryz.underlying152
  a70 := Tryz.isAgg152
  z70 := Tryz.sizeOf152
  v70 := Tryz.zeroValue152
  t72 := Tryz.underlying154
  a72 := Tryz.isAgg154
  z72 := Tryz.sizeOf154
  v72 := Tryz.zeroValue154
  t127 := Tryz.underlying172
  a127 := Tryz.isAgg172
  z127 := Tryz.sizeOf172
  v127 := Tryz.zeroValue172 }
theorem Tryz.Builder_Extra_169 : Builder.Extra Tryz.prog Tryz.lays169_ren := {
  sizeBuilder := by kernel_rfl
  liesBuilder := by kernel_rfl
  t5 := Tryz.underlying5
  a5 := Tryz.isAgg5
  z5 := Tryz.sizeOf5
  v5 := Tryz.zeroValue5
  infoByte := by kernel_rfl
  cellsByte := by kernel_rfl
  sizeByte := by kernel_rfl
  neB5 := by decide }
open Go.RowKit in
/-- (*strings.Builder).String: "String returns the accumulated string.": WHATEVER THE BUILDER HOLDS. (LAID: no walk: one application.) -/
theorem Tryz.Builder_String_any (B b : Nat) (l : List UInt8) (w : World) (h : Lib.IsBuilder 154 5 B b (Lib.byteCells l) w) (hBw : B ≤ w.heap.size) :
    Calls Tryz.prog 118 #[.pointer (some ⟨b, 0, none⟩)] w fun e w' => e = .returned (.string ⟨l.toArray⟩) ∧ Below B w w' := Any.Builder_String_any Tryz.lays169 Tryz.Builder_Extra_169 B b l w h hBw
def Tryz.laysM171_ren : Go.Shelf.Ren := ⟨fun | 171 => 173 | 243 => 193 | 246 => 202 | 283 => 204 | 284 => 205 | 285 => 206 | 286 => 207 | 129 => 160 | 317 => 208 | 318 => 209 | 319 => 210 | 320 => 211 | 337 => 212 | 338 => 213 | n => n, fun | 3 => 3 | 9 => 9 | 2 => 2 | 4 => 4 | 171 => 235 | 0 => 0 | 53 => 192 | 37 => 140 | 5 => 5 | 173 => 237 | 212 => 240 | 51 => 190 | 20 => 20 | 213 => 241 | 46 => 166 | 232 => 242 | 233 => 243 | n => n, fun | 17 => 5 | 18 => 6 | 19 => 7 | n => n⟩
theorem Tryz.laysM171 : Go.Proofs.LaysM.n171 Tryz.prog Tryz.laysM171_ren := {
  mixed := by kernel_rfl
  f129 := Tryz.func160.trans (congrArg some (by kernel_rfl))
  f171 := Tryz.func173.trans (congrArg some (by kernel_rfl))
  f243 := Tryz.func193.trans (congrArg some (by kernel_rfl))
  f246 := Tryz.func202.trans (congrArg some (by kernel_rfl))
  f283 := Tryz.func204.trans (congrArg some (by kernel_rfl))
  f284 := Tryz.func205.trans (congrArg some (by kernel_rfl))
  f285 := Tryz.func206.trans (congrArg some (by kernel_rfl))
  f286 := Tryz.func207.trans (congrArg some (by kernel_rfl))
  f317 := Tryz.func208.trans (congrArg some (by kernel_rfl))
  f318 := Tryz.func209.trans (congrArg some (by kernel_rfl))
  f319 := Tryz.func210.trans (congrArg some (by kernel_rfl))
  f320 := Tryz.func211.trans (congrArg some (by kernel_rfl))
  f337 := Tryz.func212.trans (congrArg some (by kernel_rfl))
  f338 := Tryz.func213.trans (congrArg some (by kernel_rfl))
  t0 := Tryz.underlying0
  a0 := Tryz.isAgg0
  z0 := Tryz.sizeOf0
  v0 := Tryz.zeroValue0
  t2 := Tryz.underlying2
  a2 := Tryz.isAgg2
  z2 := Tryz.sizeOf2
  v2 := Tryz.zeroValue2
  t3 := Tryz.underlying3
  a3 := Tryz.isAgg3
  z3 := Tryz.sizeOf3
  v3 := Tryz.zeroValue3
  t4 := Tryz.underlying4
  a4 := Tryz.isAgg4
  z4 := Tryz.sizeOf4
  v4 := Tryz.zeroValue4
  t5 := Tryz.underlying5
  a5 := Tryz.isAgg5
  z5 := Tryz.sizeOf5
  v5 := Tryz.zeroValue5
  t9 := Tryz.underlying9
  a9 := Tryz.isAgg9
  z9 := Tryz.sizeOf9
  v9 := Tryz.zeroValue9
  t20 := Tryz.underlying20
  a20 := Tryz.isAgg20
  z20 := Tryz.sizeOf20
  v20 := Tryz.zeroValue20
  t37 := Tryz.underlying140
  a37 := Tryz.isAgg140
  z37 := Tryz.sizeOf140
  v37 := Tryz.zeroValue140
  t46 := Tryz.underlying166
  a46 := Tryz.isAgg166
  z46 := Tryz.sizeOf166
  v46 := Tryz.zeroValue166
  t51 := Tryz.underlying190
  a51 := Tryz.isAgg190
  z51 := Tryz.sizeOf190
  v51 := Tryz.zeroValue190
  t53 := Tryz.underlying192
  a53 := Tryz.isAgg192
  z53 := Tryz.sizeOf192
  v53 := Tryz.zeroValue192
  t171 := Tryz.underlying235
  a171 := Tryz.isAgg235
  z171 := Tryz.sizeOf235
  v171 := Tryz.zeroValue235
  t173 := Tryz.underlying237
  a173 := Tryz.isAgg237
  z173 := Tryz.sizeOf237
  v173 := Tryz.zeroValue237
  t212 := Tryz.underlying240
  a212 := Tryz.isAgg240
  z212 := Tryz.sizeOf240
  v212 := Tryz.zeroValue240
  t213 := Tryz.underlying241
  a213 := Tryz.isAgg241
  z213 := Tryz.sizeOf241
  t232 := Tryz.underlying242
  a232 := Tryz.isAgg242
  z232 := Tryz.sizeOf242
  v232 := Tryz.zeroValue242
  t233 := Tryz.underlying243
  a233 := Tryz.isAgg243
  z233 := Tryz.sizeOf243
  v233 := Tryz.zeroValue243
  g17 := by kernel_rfl
  g18 := by kernel_rfl
  g19 := by kernel_rfl
  i0 := by kernel_rfl
  i2 := by kernel_rfl
  i3 := by kernel_rfl
  i4 := by kernel_rfl
  i5 := by kernel_rfl
  i9 := by kernel_rfl
  i20 := by kernel_rfl
  i37 := by kernel_rfl
  i46 := by kernel_rfl
  i51 := by kernel_rfl
  i53 := by kernel_rfl
  i171 := by kernel_rfl
  i173 := by kernel_rfl
  i212 := by kernel_rfl
  i232 := by kernel_rfl
  i233 := by kernel_rfl
  m17 := by kernel_rfl
  m18 := by kernel_rfl
  m19 := by kernel_rfl }
open Go.RowKit Go.Sort Go.Lib in
/-- strconv.Itoa: "Itoa is equivalent to FormatInt(int64(i), 10).": i's DECIMAL NUMERAL ('Lib.itoa': a '-' where i is negative, then the digits), FOR EVERY int. The world behind the call: the world before it, new blocks behind the heap (the library's 'var a [24]byte'), draws. (LAID: no walk: one application.) -/
theorem Tryz.strconv_Itoa (n : Int) (h0 : -9223372036854775808 ≤ n) (h1 : n ≤ 9223372036854775807) (w : World) (htab : Lib.TabIs Tryz.prog w "internal/strconv.uint64pow10" .u64 Lib.pow10Tab) :
    Calls Tryz.prog 173 #[.int .i64 n] w fun e w' => e = .returned (.string ⟨(Lib.itoa n).toArray⟩) ∧ ∃ k os, w' = grow (w.drewN k) os := Any.strconv_Itoa Tryz.laysM171 n h0 h1 w htab
def Tryz.laysNm215_ren : Go.Shelf.Ren := ⟨fun | 15 => 99 | n => n, fun | 22 => 39 | 3 => 3 | 4 => 4 | n => n, fun | n => n⟩
theorem Tryz.laysNm215 : Go.Proofs.Lays2.n15 Tryz.prog Tryz.laysNm215_ren := {
  mixed := by kernel_rfl
  f15 := Tryz.func99.trans (congrArg some (by kernel_rfl))
  t3 := Tryz.underlying3
  a3 := Tryz.isAgg3
  z3 := Tryz.sizeOf3
  v3 := Tryz.zeroValue3
  t4 := Tryz.underlying4
  a4 := Tryz.isAgg4
  z4 := Tryz.sizeOf4
  v4 := Tryz.zeroValue4
  t22 := Tryz.underlying39
  a22 := Tryz.isAgg39
  z22 := Tryz.sizeOf39
  v22 := Tryz.zeroValue39
  i3 := by kernel_rfl }
open Go.RowKit Go.Lib in
/-- slices.Clone at []int: "Clone returns a copy of the slice. The elements are copied using assignment, so this is a shallow clone. The result may have additional unused capacity. The result preserves the nilness of s.": OF A SLICE THAT IS NOT nil IT RETURNS A SLICE THAT IS NOT nil, OF THE SAME ELEMENTS, IN MEMORY OF THE CALL's OWN: in the how-to's words (6f): 'w'.ownsRow B e 1 v' n cells': v' begins at the head of a row among the blocks from B on (B: the heap's size at the call), not frozen, whose first cells are the elements · 'Below B w w'': below B all is as it was. The capacity is whatever the run-time gives. 'zs': what the cells behind the slice's address hold; 'zs.take n': its elements. (LAID: no walk: one application.) -/
theorem Tryz.slices_Clone_int (b off n c : Nat) (zs : List Int) (w : World) (hz : n ≤ zs.length) (hbig : n * 8 ≤ 140737488355328) (hc : ∀ j, j < zs.length → w.cell? ⟨b, off + j, none⟩ = some (.int .i64 (zs.getD j 0))) :
    Calls Tryz.prog 99 #[.slice (some ⟨b, off, none⟩) n c] w fun e w' => ∃ v', e = .returned v' ∧ w'.ownsRow w.heap.size 3 1 v' n ((zs.take n).map (Value.int .i64)) ∧ v' ≠ .slice none 0 0 ∧ Below w.heap.size w w' := Any.slices_Clone_int Tryz.laysNm215 b off n c zs w hz hbig hc
open Go.RowKit Go.Lib in
/-- The same at nil: nil comes back; the world is as it was. (LAID: no walk: one application.) -/
theorem Tryz.slices_Clone_int_nil (n c : Nat) (w : World) :
    Calls Tryz.prog 99 #[.slice none n c] w fun e w' => e = .returned (.slice none 0 0) ∧ w' = w := Any.slices_Clone_int_nil Tryz.laysNm215 n c w
open Go.RowKit Go.Lib in
/-- The same at a slice of length 0 that is not nil, WHATEVER ITS ADDRESS (no cell is asked for): a slice that is not nil and owns nothing comes back. (LAID: no walk: one application.) -/
theorem Tryz.slices_Clone_int_zero (a : Addr) (c : Nat) (w : World) :
    Calls Tryz.prog 99 #[.slice (some a) 0 c] w fun e w' => ∃ v', e = .returned v' ∧ w'.ownsRow w.heap.size 3 1 v' 0 [] ∧ v' ≠ .slice none 0 0 ∧ Below w.heap.size w w' := Any.slices_Clone_int_zero Tryz.laysNm215 a c w
end Go.Proofs

/-
  Plain definitions and facts for the layer 'alert': no program in sight. Numbers: ranges, primes, the greatest common divisor, powers.
-/
namespace Go.Proofs.YtohfofecbdfkgaaGreatDoor
namespace Al

/-- n lies from lo to hi. -/
def inB (n lo hi : Int) : Bool := decide (lo ≤ n) && decide (n ≤ hi)
theorem inB_eq (n lo hi : Int) : inB n lo hi = (decide (lo ≤ n) && decide (n ≤ hi)) := rfl
theorem inB_true {n lo hi : Int} : inB n lo hi = true ↔ lo ≤ n ∧ n ≤ hi := by simp [inB]
theorem inB_false {n lo hi : Int} : inB n lo hi = false ↔ n < lo ∨ hi < n := by
  rw [← Bool.not_eq_true, inB_true]; omega
theorem inB_mk {n lo hi : Int} (h : lo ≤ n ∧ n ≤ hi) : inB n lo hi = true := inB_true.2 h

/-- Is a public key plausible? -/
def plaus (m e : Int) : Bool := inB m 15 1073741824 && inB e 3 32749
theorem plaus_true {m e : Int} : plaus m e = true ↔ (15 ≤ m ∧ m ≤ 1073741824) ∧ 3 ≤ e ∧ e ≤ 32749 := by
  simp [plaus, inB_true]

/-- No divisor of n from d on whose square is at most n (f: how many are asked). -/
def noDiv (n : Nat) : Nat → Nat → Bool
  | 0, _ => true
  | f + 1, d => if d * d ≤ n then (if n % d = 0 then false else noDiv n f (d + 1)) else true
/-- Is n a prime of keys? -/
def primeB (n : Int) : Bool := inB n 3 32749 && noDiv n.toNat n.toNat 2
theorem primeB_no {n : Int} (h : inB n 3 32749 = false) : primeB n = false := by unfold primeB; rw [h]; rfl
theorem primeB_yes {m : Nat} (h : inB (m : Int) 3 32749 = true) : noDiv m (m + 2 - 2) 2 = primeB m := by unfold primeB; rw [h]; rfl
theorem noDiv_step {n f d : Nat} (h : d * d ≤ n) (hn : n % d ≠ 0) : noDiv n (f + 1) d = noDiv n f (d + 1) := by
  rw [noDiv, if_pos h, if_neg hn]
theorem noDiv_hit {n f d : Nat} (h : d * d ≤ n) (hn : n % d = 0) : noDiv n (f + 1) d = false := by
  rw [noDiv, if_pos h, if_pos hn]
theorem noDiv_end {n f d : Nat} (h : n < d * d) : noDiv n f d = true := by
  cases f with
  | zero => rfl
  | succ f => rw [noDiv, if_neg (by omega)]
theorem sq_lt {d n : Nat} (h : d * d ≤ n) (h2 : 2 ≤ d) : d < n := by
  have : 2 * d ≤ d * d := Nat.mul_le_mul_right d h2
  omega
theorem sq_le (d : Nat) (h : d ≤ 32750) : d * d ≤ 1072562500 := by
  have := Nat.mul_le_mul h h
  omega

theorem sqI (d : Nat) : (d : Int) * d = ((d * d : Nat) : Int) := (Int.natCast_mul d d).symm
theorem sqI_le (d : Nat) (h : d ≤ 32750) : (d : Int) * d ≤ 1072562500 := by have := sq_le d h; rw [sqI]; omega
theorem sqI_nonneg (d : Nat) : 0 ≤ (d : Int) * d := by rw [sqI]; omega
theorem sqI_le_iff {d m : Nat} : (d : Int) * d ≤ m ↔ d * d ≤ m := by rw [sqI]; omega

/-- The greatest common divisor of two numbers that are not less than 0. -/
def gcdI (a b : Int) : Int := (Nat.gcd a.toNat b.toNat : Nat)
theorem gcdI_nat (a b : Nat) : gcdI a b = (Nat.gcd a b : Nat) := rfl
theorem gcdI_step {c d : Nat} : Nat.gcd d (c % d) = Nat.gcd c d := by rw [Nat.gcd_comm c d, Nat.gcd_rec d c, Nat.gcd_comm]

/-- The rest of a power. -/
def pw (n e m : Int) : Int := ((n.toNat ^ e.toNat % m.toNat : Nat) : Int)
theorem pw_nat (n e m : Nat) : pw n e m = (n ^ e % m : Nat) := rfl
theorem pw_start (n e m : Nat) : 1 % m * (n % m) ^ e % m = n ^ e % m := by
  rw [Nat.mul_mod, Nat.mod_mod, Nat.pow_mod, Nat.mod_mod, ← Nat.pow_mod, ← Nat.mul_mod, Nat.one_mul]
theorem pw_odd {x s k m : Nat} (h : k % 2 = 1) : x * s % m * (s * s % m) ^ (k / 2) % m = x * s ^ k % m := by
  have e : s ^ k = s * (s * s) ^ (k / 2) := by
    rw [← Nat.pow_two, ← Nat.pow_mul, ← Nat.pow_add_one']
    congr 1; omega
  rw [e, ← Nat.mul_assoc, Nat.mul_mod, Nat.mod_mod, Nat.pow_mod, Nat.mod_mod, ← Nat.pow_mod, ← Nat.mul_mod]
theorem pw_even {x s k m : Nat} (h : k % 2 = 0) : x * (s * s % m) ^ (k / 2) % m = x * s ^ k % m := by
  have e : s ^ k = (s * s) ^ (k / 2) := by
    rw [← Nat.pow_two, ← Nat.pow_mul]
    congr 1; omega
  rw [e, Nat.mul_mod, Nat.pow_mod, Nat.mod_mod, ← Nat.pow_mod, ← Nat.mul_mod]
theorem mul_bd {x s m : Nat} (hx : x < m) (hs : s < m) (hm : m ≤ 1073741824) : x * s ≤ 1152921504606846976 := by
  have := Nat.mul_le_mul (Nat.le_of_lt (Nat.lt_of_lt_of_le hx hm)) (Nat.le_of_lt (Nat.lt_of_lt_of_le hs hm))
  omega
theorem mulI_bd {x s m : Nat} (hx : x < m) (hs : s < m) (hm : m ≤ 1073741824) : (x : Int) * s ≤ 1152921504606846976 := by
  have := mul_bd hx hs hm
  rw [← Int.natCast_mul]; omega
theorem mulI_nn (x s : Nat) : 0 ≤ (x : Int) * s := by rw [← Int.natCast_mul]; omega
end Al
end Go.Proofs.YtohfofecbdfkgaaGreatDoor

/-
  The walks of the small functions on numbers: 'within', 'In', 'plausible'.
-/
namespace Go.Proofs.YtohfofecbdfkgaaGreatDoor
open Go.RowKit Al

theorem ret_bool {a b : Bool} (h : a = b) : Ending.returned (.bool a) = .returned (.bool b) := by rw [h]
theorem ret_int {k : IntKind} {a b : Int} (h : a = b) : Ending.returned (.int k a) = .returned (.int k b) := by rw [h]

theorem within_ (n lo hi : Int) (w : World) :
    Calls Tryz.prog 50 #[.int .i64 n, .int .i64 lo, .int .i64 hi] w fun e w' => e = .returned (.bool (inB n lo hi)) ∧ w = w' := by
  go_enter Tryz.func50, Tryz.ntmps50
  go_wp2
  all_goals go_ret
  all_goals exact ⟨ret_bool (by rw [inB_eq]; simp; try omega), rfl⟩
theorem In_ (n lo hi : Int) (w : World) :
    Calls Tryz.prog 76 #[.int .i64 n, .int .i64 lo, .int .i64 hi] w fun e w' => e = .returned (.bool (inB n lo hi)) ∧ w = w' := by
  go_enter Tryz.func76, Tryz.ntmps76
  go_wp2
  all_goals go_ret
  all_goals exact ⟨ret_bool (by rw [inB_eq]; simp; try omega), rfl⟩
theorem In_is (n lo hi : Int) (b : Bool) (h : inB n lo hi = b) (w : World) :
    Calls Tryz.prog 76 #[.int .i64 n, .int .i64 lo, .int .i64 hi] w fun e w' => e = .returned (.bool b) ∧ w = w' := h ▸ In_ n lo hi w
theorem within_is (n lo hi : Int) (b : Bool) (h : inB n lo hi = b) (w : World) :
    Calls Tryz.prog 50 #[.int .i64 n, .int .i64 lo, .int .i64 hi] w fun e w' => e = .returned (.bool b) ∧ w = w' := h ▸ within_ n lo hi w
theorem swithin_ (n lo hi : Int) (w : World) :
    Calls Tryz.prog 172 #[.int .i64 n, .int .i64 lo, .int .i64 hi] w fun e w' => e = .returned (.bool (inB n lo hi)) ∧ w = w' := by
  go_enter Tryz.func172, Tryz.ntmps172
  go_wp2
  all_goals go_ret
  all_goals exact ⟨ret_bool (by rw [inB_eq]; simp; try omega), rfl⟩

theorem plausible_ (m e : Int) (w : World) :
    Calls Tryz.prog 95 #[.agg #[.int .i64 m, .int .i64 e]] w fun e' w' => e' = .returned (.bool (plaus m e)) ∧ Below w.heap.size w w' := by
  go_enter Tryz.func95, Tryz.ntmps95
  go_wp2_with (go_at_call 50; refine (within_ _ _ _ _).mono ?_; rintro e w' ⟨rfl, rfl⟩)
  all_goals go_ret
  all_goals exact ⟨ret_bool (by simp [plaus, *]), (Below.refl _ _).alloc (Nat.le_refl _) _⟩

theorem prime_ (n : Int) (w : World) :
    Calls Tryz.prog 49 #[.int .i64 n] w fun e w' => e = .returned (.bool (primeB n)) ∧ w = w' := by
  by_cases hn : inB n 3 32749 = true
  · have hb := inB_true.1 hn
    obtain ⟨m, rfl⟩ := Int.eq_ofNat_of_zero_le (a := n) (by omega)
    have Hn := Lib.hid hn
    clear hn
    go_enter Tryz.func49, Tryz.ntmps49
    go_wp2_with (go_at_call 50; refine (within_ _ _ _ _).mono ?_; rintro e w' ⟨rfl, rfl⟩; rw [Hn.out])
    go_loop [3] (fun d => ∃ k : Nat, 2 ≤ k ∧ k ≤ m ∧ d = .int .i64 k ∧ Hid (noDiv m (m + 2 - k) k = primeB m)) (fun d => (32750 - intOf d).toNat)
    case atStart => exact ⟨2, by omega, by omega, rfl, primeB_yes Hn.out⟩
    case round =>
      obtain ⟨k, hk2, hkm, rfl, hp⟩ := hrel
      have hsq' := sqI_le k (by omega)
      have hsq0 := sqI_nonneg k
      obtain ⟨f, hf⟩ : ∃ f, m + 2 - k = f + 1 := ⟨m + 1 - k, by omega⟩
      by_cases hc : k * k ≤ m
      · have hc' := sqI_le_iff.2 hc
        by_cases hm : m % k = 0
        · have hm' : ((m : Int) % k == 0) = true := by simp; omega
          have Hf := Lib.hid hf
          clear hf
          go_wp2
          go_ret
          exact ⟨ret_bool (by rw [← hp.out, Hf.out, noDiv_hit hc hm]), rfl⟩
        · have hm' : ((m : Int) % k == 0) = false := by simp; omega
          have hlt := sq_lt hc hk2
          have Hf := Lib.hid hf
          clear hf
          go_wp2
          go_round
          case rel => exact ⟨k + 1, by omega, by omega, by go_num, by show _ = _; rw [← hp.out, Hf.out, noDiv_step hc hm]; congr 1; have := Hf.out; omega⟩
          case measure => simp [intOf]; omega
      · have hc' := fun h => hc (sqI_le_iff.1 h)
        go_wp2
        go_ret
        exact ⟨ret_bool (by rw [← hp.out, noDiv_end (by omega)]), rfl⟩
  · have hn' : inB n 3 32749 = false := by simpa using hn
    have Hn := Lib.hid hn'
    clear hn hn'
    go_enter Tryz.func49, Tryz.ntmps49
    go_wp2_with (go_at_call 50; refine (within_ _ _ _ _).mono ?_; rintro e w' ⟨rfl, rfl⟩; rw [Hn.out])
    go_ret
    exact ⟨ret_bool (primeB_no Hn.out).symm, rfl⟩

/-- The greatest common divisor, by the steps of Euclid. -/
theorem common_ (a b : Int) (ha : 0 ≤ a) (hb : 0 ≤ b) (w : World) :
    Calls Tryz.prog 51 #[.int .i64 a, .int .i64 b] w fun e w' => e = .returned (.int .i64 (gcdI a b)) ∧ ∃ n, w' = w.drewN n := by
  obtain ⟨a, rfl⟩ := Int.eq_ofNat_of_zero_le ha
  obtain ⟨b, rfl⟩ := Int.eq_ofNat_of_zero_le hb
  clear ha hb
  go_enter Tryz.func51, Tryz.ntmps51
  go_wp2
  go_loopw [0, 1] (fun x y wr => ∃ c d : Nat, x = .int .i64 c ∧ y = .int .i64 d ∧ Hid (Nat.gcd c d = Nat.gcd a b) ∧ ∃ n, wr = w.drewN n) (fun _ y _ => (intOf y).toNat)
  case atStart => exact ⟨a, b, rfl, rfl, rfl, 0, rfl⟩
  case round =>
    obtain ⟨c, d, rfl, rfl, hg, n, rfl⟩ := hrel
    by_cases hd : 0 < d
    · have hd0 : ((d : Int) == 0) = false := by simp; omega
      have hd1 : (0 : Int) < (d : Int) := by omega
      have hlt := Nat.mod_lt c hd
      go_wp2
      go_quiet (fail)
      go_wp2
      go_roundw
      case rel => exact ⟨d, c % d, rfl, by go_num, by show _ = _; rw [← hg.out, gcdI_step], _, World.drewN_drewN _ _ _⟩
      case measure => simp [intOf]; omega
    · obtain rfl : d = 0 := by omega
      go_wp2
      go_ret
      exact ⟨ret_int (by rw [gcdI_nat, ← hg.out]; simp), n, rfl⟩

end Go.Proofs.YtohfofecbdfkgaaGreatDoor
