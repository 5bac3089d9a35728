/-
  Boards in memory: frames that name blocks; maps of alerts; what a board is; the walk of none.
-/
import Derived.Test.YtohfofecbdfkgaaDoorNt
import Derived.Maps.OwnSet
namespace Go.Proofs.YtohfofecbdfkgaaDoor
open Go.RowKit Al

/-- Of the blocks that were there none but those of F has turned. -/
structure Kp (F : Nat → Prop) (w w' : World) : Prop where
  os : w'.os = w.os
  tape : w'.tape = w.tape
  output : w'.output = w.output
  size : w.heap.size ≤ w'.heap.size
  block : ∀ k, k < w.heap.size → ¬ F k → w'.heap[k]? = w.heap[k]?
theorem Kp.refl (F : Nat → Prop) (w : World) : Kp F w w := ⟨rfl, rfl, rfl, Nat.le_refl _, fun _ _ _ => rfl⟩
theorem Kp.of_below {F : Nat → Prop} {w w' : World} (h : Below w.heap.size w w') : Kp F w w' := ⟨h.os, h.tape, h.output, h.size, fun k hk _ => h.block k hk⟩
theorem Kp.trans {F G : Nat → Prop} {a b c : World} (h : Kp F a b) (k : Kp G b c) (hG : ∀ i, i < a.heap.size → G i → F i) : Kp F a c :=
  ⟨k.os.trans h.os, k.tape.trans h.tape, k.output.trans h.output, Nat.le_trans h.size k.size, fun i hi hf => (k.block i (Nat.lt_of_lt_of_le hi h.size) (fun g => hf (hG i hi g))).trans (h.block i hi hf)⟩
theorem Kp.mono {F G : Nat → Prop} {a b : World} (h : Kp F a b) (hG : ∀ i, i < a.heap.size → F i → G i) : Kp G a b :=
  ⟨h.os, h.tape, h.output, h.size, fun i hi hf => h.block i hi (fun f => hf (hG i hi f))⟩
theorem Kp.then_below {F : Nat → Prop} {a b c : World} (h : Kp F a b) (k : Below b.heap.size b c) : Kp F a c := h.trans (G := fun _ => False) (Kp.of_below k) (fun _ _ h => h.elim)
theorem Kp.below {F : Nat → Prop} {a b : World} (h : Kp F a b) {B : Nat} (hB : B ≤ a.heap.size) (hF : ∀ i, F i → B ≤ i) : Below B a b :=
  ⟨h.os, h.tape, h.output, h.size, fun k hk => h.block k (by omega) (fun f => by have := hF k f; omega)⟩
theorem Kp.cell {F : Nat → Prop} {a b : World} (h : Kp F a b) {p : Addr} (hp : p.block < a.heap.size) (hf : ¬ F p.block) : b.cell? p = a.cell? p := World.cell?_of_block (w := a) (h.block p.block hp hf)
theorem Kp.frozen {F : Nat → Prop} {a b : World} (h : Kp F a b) {p : Addr} (hp : p.block < a.heap.size) (hf : ¬ F p.block) : b.frozen? p = a.frozen? p := World.frozen?_of_block (w := a) (h.block p.block hp hf)
theorem Kp.setCell {F : Nat → Prop} {a b : World} (h : Kp F a b) {p : Addr} (hp : F p.block ∨ a.heap.size ≤ p.block) (u : Value) : Kp F a (b.setCell p u) := by
  have hs : (b.setCell p u).heap.size = b.heap.size := by simp
  refine ⟨h.os, h.tape, h.output, by rw [hs]; exact h.size, fun k hk hf => ?_⟩
  rw [Below.heap_setCell b p u k (fun e => ?_)]
  · exact h.block k hk hf
  · subst e
    rcases hp with hp | hp
    · exact hf hp
    · omega
theorem Kp.grown {F : Nat → Prop} {a b c : World} {r : Option Nat} (h : Kp F a b) (hg : b.grownBy c r) (hr : ∀ k, r = some k → F k ∨ a.heap.size ≤ k) : Kp F a c := by
  obtain ⟨g1, g2, g3, g4, g5⟩ := hg
  refine ⟨g1.trans h.os, g2.trans h.tape, g3.trans h.output, Nat.le_trans h.size g4, fun k hk hf => ?_⟩
  rw [g5 k (Nat.lt_of_lt_of_le hk h.size) (fun e => ?_)]
  · exact h.block k hk hf
  · rcases hr k (by first | exact e | exact e.symm) with h1 | h1
    · exact hf h1
    · omega

/-- A slice in memory that lies in the blocks of R. -/
structure SlR (w : World) (R : Nat → Prop) (sz : Nat) (A : Option Addr) (n c : Nat) (xs : List Value) : Prop where
  sl : Sl w w.heap.size sz A n c xs
  at_ : 0 < n → ∀ a, A = some a → R a.block
theorem SlR.keep {w w' : World} {R F : Nat → Prop} {sz n c : Nat} {A : Option Addr} {xs : List Value} (h : SlR w R sz A n c xs) (k : Kp F w w') (hRF : ∀ i, R i → ¬ F i) : SlR w' R sz A n c xs :=
  ⟨⟨h.sl.len, h.sl.cap, h.sl.max, h.sl.nil_, fun hn => by
    obtain ⟨b, off, e, hb, hc⟩ := h.sl.at_ hn
    exact ⟨b, off, e, Nat.lt_of_lt_of_le hb k.size, fun j u hu => (k.cell (p := ⟨b, off + j, none⟩) hb (hRF b (by have := h.at_ hn _ e; exact this))).trans (hc j u hu)⟩⟩, h.at_⟩
theorem SlR.mono {w : World} {R R' : Nat → Prop} {sz n c : Nat} {A : Option Addr} {xs : List Value} (h : SlR w R sz A n c xs) (hR : ∀ i, R i → R' i) : SlR w R' sz A n c xs := ⟨h.sl, fun hn a e => hR _ (h.at_ hn a e)⟩
theorem SlR.of_own {w : World} {base e sz n c : Nat} {A : Option Addr} {xs : List Value} (h : w.ownsRow base e sz (.slice A n c) n xs) {R : Nat → Prop} (hR : ∀ i, base ≤ i → i < w.heap.size → R i) : SlR w R sz A n c xs :=
  ⟨Sl.of_own h, fun _ a ea => by
    subst ea
    rcases h.2 with ⟨hv, _⟩ | ⟨g, cap, cur, hv, hg, hh, _⟩
    · cases hv
    · cases hv
      exact hR _ hg (Array.getElem?_eq_some_iff.1 hh).1⟩

/-- A map's elements read as themselves. -/
def MapR : Value → Option (DataW Value × List MemPlace) := fun v => some (.held v, [])
theorem keyLaw : Maps.Keyed Tryd.prog 9 := Maps.string_keyed Tryd.underlying9
theorem zeroAl (w : World) : (zeroValue 29).run Tryd.prog w = .ok (Al.zero.val none 0) w := by kernel_rfl
/-- Block mb is a map from strings to alerts: what f says of each key. -/
def MapAt (w : World) (mb n : Nat) (f : List UInt8 → Option Value) : Prop :=
  ∃ D : DataW Value, w.ownsMap Tryd.prog 9 MapR mb n D ∧ ∀ s : List UInt8, Maps.has D (.string s) = (f s).isSome ∧ ∀ v, f s = some v → D.atKey (.string s) (.held (Al.zero.val none 0)) = .held v
theorem MapAt.made (w : World) : MapAt (w.alloc (.map #[] 0)) w.heap.size 0 (fun _ => none) := by
  refine ⟨_, World.ownsMap_made w _ _ _, fun s => ⟨rfl, fun v h => by cases h⟩⟩
theorem MapAt.lt {w : World} {mb n : Nat} {f : List UInt8 → Option Value} (h : MapAt w mb n f) : mb < w.heap.size := by
  obtain ⟨D, h1, _⟩ := h
  exact h1.lt
theorem MapAt.keep {w w' : World} {mb n : Nat} {f : List UInt8 → Option Value} (h : MapAt w mb n f) {F : Nat → Prop} (k : Kp F w w') (hF : ¬ F mb) : MapAt w' mb n f := by
  have hlt := h.lt
  obtain ⟨D, ⟨es, clock, hb, r⟩, h2⟩ := h
  exact ⟨D, ⟨es, clock, (k.block mb hlt hF).trans hb, r⟩, h2⟩
theorem MapAt.look {w : World} {mb n : Nat} {f : List UInt8 → Option Value} (h : MapAt w mb n f) {s : ByteArray} (hs : s.size ≤ maxLen) :
    (Instr.lookup 78 (.map (some mb)) (.string s) true).run Tryd.prog w = .ok (.tuple #[(f s.data.toList).getD (Al.zero.val none 0), .bool (f s.data.toList).isSome]) w := by
  obtain ⟨D, h1, h2⟩ := h
  obtain ⟨hh, ha⟩ := h2 s.data.toList
  obtain ⟨v, ps, hrun, hv⟩ := h1.look_ok keyLaw Tryd.underlying78 (zeroAl w) (zd := .held (Al.zero.val none 0)) (zp := []) rfl (WideMaps.keyOf_string_mk Tryd.underlying9 hs)
  rw [hrun, hh]
  have hv' : DataW.held v = D.atKey (.string s.data.toList) (.held (Al.zero.val none 0)) := congrArg Prod.fst (Option.some.inj hv)
  cases hf : f s.data.toList with
  | none =>
    rw [hf] at hh
    rw [Maps.atKey_of_not_has hh] at hv'
    cases hv'
    rfl
  | some u =>
    rw [ha u hf] at hv'
    cases hv'
    rfl
theorem isKeyS (s : List UInt8) : WideAt.IsKeyLit (.string s) := by first | trivial | (simp [WideAt.IsKeyLit]; done)
theorem MapAt.put {w : World} {mb n : Nat} {f : List UInt8 → Option Value} (h : MapAt w mb n f) (hn : n < maxLen) {s : ByteArray} (hs : s.size ≤ maxLen) (v : Value) :
    ∃ w', (Instr.mapUpdate 78 (.map (some mb)) (.string s) v).run Tryd.prog w = .ok () w' ∧ MapAt w' mb (n + 1) (fun k => if k = s.data.toList then some v else f k) ∧ w.grownBy w' (some mb) := by
  obtain ⟨D, h1, h2⟩ := h
  obtain ⟨w', hrun, h3, h4⟩ := h1.update keyLaw Tryd.underlying78 hn (WideMaps.keyOf_string_mk Tryd.underlying9 hs) (val := v) (d := .held v) (ps := []) rfl
  refine ⟨w', hrun, ⟨_, h3, fun k => ?_⟩, h4⟩
  have hm := h1.isMap
  by_cases hk : k = s.data.toList
  · subst hk
    simp only [if_true]
    refine ⟨Maps.has_put_same hm (isKeyS _) _, fun u hu => ?_⟩
    cases hu
    exact Maps.atKey_put_same hm (isKeyS _) _ _
  · simp only [if_neg hk]
    have hne : (Lit.string k) ≠ .string s.data.toList := fun e => hk (by injection e)
    obtain ⟨hh, ha⟩ := h2 k
    refine ⟨by rw [Maps.has_put_other hne]; exact hh, fun u hu => ?_⟩
    rw [Maps.atKey_put_other hne]
    exact ha u hu

theorem wpList_mapUpdate_al {w : World} {ops : Array Oper} {rest : List Oper} {o : Oper} {a : Act} {Q : Exit → Act → World → Prop} (hg : o.guard = none) (m x v : Operand) (hop : o.op = Op.mapUpdate 78 m x v)
    (mb n : Nat) (f : List UInt8 → Option Value) (hmap : MapAt w mb n f) (hn : n < maxLen) (hm : a.eval m = .map (some mb)) (s : ByteArray) (hs : s.size ≤ maxLen) (hx : a.eval x = .string s) (u : Value) (hv : a.eval v = u)
    (hK : ∀ w', MapAt w' mb (n + 1) (fun k => if k = s.data.toList then some u else f k) → w.grownBy w' (some mb) → wpList Tryd.prog ops Q rest (a.put o.dst undef) w') : wpList Tryd.prog ops Q (o :: rest) a w := by
  refine wpList_plain hg fun K' hK' => ?_
  obtain ⟨w', hrun, r1, r2⟩ := hmap.put hn hs u
  unfold Oper.wp
  simp [execOp, hop, hm, hx, hv, hrun, Result.andThen]
  exact hK' _ _ (hK w' r1 r2)
end Go.Proofs.YtohfofecbdfkgaaDoor
