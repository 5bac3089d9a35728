/-
  Boards in memory: frames that name blocks; maps of alerts; what a board is; the walk of none.
-/
import Derived.Test.YtmpbhngjkbidcaaGreatDoorW13
import Derived.Maps.OwnSet
namespace Go.Proofs.YtmpbhngjkbidcaaGreatDoor
open Go.RowKit Al

/-- Of the blocks that were there none but those of F has turned. -/
structure Kp (F : Nat → Prop) (w w' : World) : Prop where
  os : w'.os = w.os
  tape : w'.tape = w.tape
  output : w'.output = w.output
  size : w.heap.size ≤ w'.heap.size
  block : ∀ k, k < w.heap.size → ¬ F k → w'.heap[k]? = w.heap[k]?
theorem Kp.refl (F : Nat → Prop) (w : World) : Kp F w w := ⟨rfl, rfl, rfl, Nat.le_refl _, fun _ _ _ => rfl⟩
theorem Kp.of_below {F : Nat → Prop} {w w' : World} (h : Below w.heap.size w w') : Kp F w w' := ⟨h.os, h.tape, h.output, h.size, fun k hk _ => h.block k hk⟩
theorem Kp.trans {F G : Nat → Prop} {a b c : World} (h : Kp F a b) (k : Kp G b c) (hG : ∀ i, i < a.heap.size → G i → F i) : Kp F a c :=
  ⟨k.os.trans h.os, k.tape.trans h.tape, k.output.trans h.output, Nat.le_trans h.size k.size, fun i hi hf => (k.block i (Nat.lt_of_lt_of_le hi h.size) (fun g => hf (hG i hi g))).trans (h.block i hi hf)⟩
theorem Kp.mono {F G : Nat → Prop} {a b : World} (h : Kp F a b) (hG : ∀ i, i < a.heap.size → F i → G i) : Kp G a b :=
  ⟨h.os, h.tape, h.output, h.size, fun i hi hf => h.block i hi (fun f => hf (hG i hi f))⟩
theorem Kp.then_below {F : Nat → Prop} {a b c : World} (h : Kp F a b) (k : Below b.heap.size b c) : Kp F a c := h.trans (G := fun _ => False) (Kp.of_below k) (fun _ _ h => h.elim)
theorem Kp.below {F : Nat → Prop} {a b : World} (h : Kp F a b) {B : Nat} (hB : B ≤ a.heap.size) (hF : ∀ i, F i → B ≤ i) : Below B a b :=
  ⟨h.os, h.tape, h.output, h.size, fun k hk => h.block k (by omega) (fun f => by have := hF k f; omega)⟩
theorem Kp.cell {F : Nat → Prop} {a b : World} (h : Kp F a b) {p : Addr} (hp : p.block < a.heap.size) (hf : ¬ F p.block) : b.cell? p = a.cell? p := World.cell?_of_block (w := a) (h.block p.block hp hf)
theorem Kp.frozen {F : Nat → Prop} {a b : World} (h : Kp F a b) {p : Addr} (hp : p.block < a.heap.size) (hf : ¬ F p.block) : b.frozen? p = a.frozen? p := World.frozen?_of_block (w := a) (h.block p.block hp hf)
theorem Kp.setCell {F : Nat → Prop} {a b : World} (h : Kp F a b) {p : Addr} (hp : F p.block ∨ a.heap.size ≤ p.block) (u : Value) : Kp F a (b.setCell p u) := by
  have hs : (b.setCell p u).heap.size = b.heap.size := by simp
  refine ⟨h.os, h.tape, h.output, by rw [hs]; exact h.size, fun k hk hf => ?_⟩
  rw [Below.heap_setCell b p u k (fun e => ?_)]
  · exact h.block k hk hf
  · subst e
    rcases hp with hp | hp
    · exact hf hp
    · omega
theorem Kp.grown {F : Nat → Prop} {a b c : World} {r : Option Nat} (h : Kp F a b) (hg : b.grownBy c r) (hr : ∀ k, r = some k → F k ∨ a.heap.size ≤ k) : Kp F a c := by
  obtain ⟨g1, g2, g3, g4, g5⟩ := hg
  refine ⟨g1.trans h.os, g2.trans h.tape, g3.trans h.output, Nat.le_trans h.size g4, fun k hk hf => ?_⟩
  rw [g5 k (Nat.lt_of_lt_of_le hk h.size) (fun e => ?_)]
  · exact h.block k hk hf
  · rcases hr k (by first | exact e | exact e.symm) with h1 | h1
    · exact hf h1
    · omega

/-- A slice in memory that lies in the blocks of R. -/
structure SlR (w : World) (R : Nat → Prop) (sz : Nat) (A : Option Addr) (n c : Nat) (xs : List Value) : Prop where
  sl : Sl w w.heap.size sz A n c xs
  at_ : 0 < n → ∀ a, A = some a → R a.block
theorem SlR.keep {w w' : World} {R F : Nat → Prop} {sz n c : Nat} {A : Option Addr} {xs : List Value} (h : SlR w R sz A n c xs) (k : Kp F w w') (hRF : ∀ i, R i → ¬ F i) : SlR w' R sz A n c xs :=
  ⟨⟨h.sl.len, h.sl.cap, h.sl.max, h.sl.nil_, fun hn => by
    obtain ⟨b, off, e, hb, hc⟩ := h.sl.at_ hn
    exact ⟨b, off, e, Nat.lt_of_lt_of_le hb k.size, fun j u hu => (k.cell (p := ⟨b, off + j, none⟩) hb (hRF b (by have := h.at_ hn _ e; exact this))).trans (hc j u hu)⟩⟩, h.at_⟩
theorem SlR.mono {w : World} {R R' : Nat → Prop} {sz n c : Nat} {A : Option Addr} {xs : List Value} (h : SlR w R sz A n c xs) (hR : ∀ i, R i → R' i) : SlR w R' sz A n c xs := ⟨h.sl, fun hn a e => hR _ (h.at_ hn a e)⟩
theorem SlR.of_own {w : World} {base e sz n c : Nat} {A : Option Addr} {xs : List Value} (h : w.ownsRow base e sz (.slice A n c) n xs) {R : Nat → Prop} (hR : ∀ i, base ≤ i → i < w.heap.size → R i) : SlR w R sz A n c xs :=
  ⟨Sl.of_own h, fun _ a ea => by
    subst ea
    rcases h.2 with ⟨hv, _⟩ | ⟨g, cap, cur, hv, hg, hh, _⟩
    · cases hv
    · cases hv
      exact hR _ hg (Array.getElem?_eq_some_iff.1 hh).1⟩

/-- A map's elements read as themselves. -/
def MapR : Value → Option (DataW Value × List MemPlace) := fun v => some (.held v, [])
theorem keyLaw : Maps.Keyed Tryz.prog 9 := Maps.string_keyed Tryz.underlying9
theorem zeroAl (w : World) : (zeroValue 55).run Tryz.prog w = .ok (Al.zero.val none 0) w := by kernel_rfl
/-- Block mb is a map from strings to alerts: what f says of each key. -/
def MapAt (w : World) (mb n : Nat) (f : List UInt8 → Option Value) : Prop :=
  ∃ D : DataW Value, w.ownsMap Tryz.prog 9 MapR mb n D ∧ ∀ s : List UInt8, Maps.has D (.string s) = (f s).isSome ∧ ∀ v, f s = some v → D.atKey (.string s) (.held (Al.zero.val none 0)) = .held v
theorem MapAt.made (w : World) : MapAt (w.alloc (.map #[] 0)) w.heap.size 0 (fun _ => none) := by
  refine ⟨_, World.ownsMap_made w _ _ _, fun s => ⟨rfl, fun v h => by cases h⟩⟩
theorem MapAt.lt {w : World} {mb n : Nat} {f : List UInt8 → Option Value} (h : MapAt w mb n f) : mb < w.heap.size := by
  obtain ⟨D, h1, _⟩ := h
  exact h1.lt
theorem MapAt.keep {w w' : World} {mb n : Nat} {f : List UInt8 → Option Value} (h : MapAt w mb n f) {F : Nat → Prop} (k : Kp F w w') (hF : ¬ F mb) : MapAt w' mb n f := by
  have hlt := h.lt
  obtain ⟨D, ⟨es, clock, hb, r⟩, h2⟩ := h
  exact ⟨D, ⟨es, clock, (k.block mb hlt hF).trans hb, r⟩, h2⟩
theorem MapAt.look {w : World} {mb n : Nat} {f : List UInt8 → Option Value} (h : MapAt w mb n f) {s : ByteArray} (hs : s.size ≤ maxLen) :
    (Instr.lookup 102 (.map (some mb)) (.string s) true).run Tryz.prog w = .ok (.tuple #[(f s.data.toList).getD (Al.zero.val none 0), .bool (f s.data.toList).isSome]) w := by
  obtain ⟨D, h1, h2⟩ := h
  obtain ⟨hh, ha⟩ := h2 s.data.toList
  obtain ⟨v, ps, hrun, hv⟩ := h1.look_ok keyLaw Tryz.underlying102 (zeroAl w) (zd := .held (Al.zero.val none 0)) (zp := []) rfl (WideMaps.keyOf_string_mk Tryz.underlying9 hs)
  rw [hrun, hh]
  have hv' : DataW.held v = D.atKey (.string s.data.toList) (.held (Al.zero.val none 0)) := congrArg Prod.fst (Option.some.inj hv)
  cases hf : f s.data.toList with
  | none =>
    rw [hf] at hh
    rw [Maps.atKey_of_not_has hh] at hv'
    cases hv'
    rfl
  | some u =>
    rw [ha u hf] at hv'
    cases hv'
    rfl
theorem isKeyS (s : List UInt8) : WideAt.IsKeyLit (.string s) := by first | trivial | (simp [WideAt.IsKeyLit]; done)
theorem MapAt.put {w : World} {mb n : Nat} {f : List UInt8 → Option Value} (h : MapAt w mb n f) (hn : n < maxLen) {s : ByteArray} (hs : s.size ≤ maxLen) (v : Value) :
    ∃ w', (Instr.mapUpdate 102 (.map (some mb)) (.string s) v).run Tryz.prog w = .ok () w' ∧ MapAt w' mb (n + 1) (fun k => if k = s.data.toList then some v else f k) ∧ w.grownBy w' (some mb) := by
  obtain ⟨D, h1, h2⟩ := h
  obtain ⟨w', hrun, h3, h4⟩ := h1.update keyLaw Tryz.underlying102 hn (WideMaps.keyOf_string_mk Tryz.underlying9 hs) (val := v) (d := .held v) (ps := []) rfl
  refine ⟨w', hrun, ⟨_, h3, fun k => ?_⟩, h4⟩
  have hm := h1.isMap
  by_cases hk : k = s.data.toList
  · subst hk
    simp only [if_true]
    refine ⟨Maps.has_put_same hm (isKeyS _) _, fun u hu => ?_⟩
    cases hu
    exact Maps.atKey_put_same hm (isKeyS _) _ _
  · simp only [if_neg hk]
    have hne : (Lit.string k) ≠ .string s.data.toList := fun e => hk (by injection e)
    obtain ⟨hh, ha⟩ := h2 k
    refine ⟨by rw [Maps.has_put_other hne]; exact hh, fun u hu => ?_⟩
    rw [Maps.atKey_put_other hne]
    exact ha u hu

theorem wpList_mapUpdate_al {w : World} {ops : Array Oper} {rest : List Oper} {o : Oper} {a : Act} {Q : Exit → Act → World → Prop} (hg : o.guard = none) (m x v : Operand) (hop : o.op = Op.mapUpdate 102 m x v)
    (mb n : Nat) (f : List UInt8 → Option Value) (hmap : MapAt w mb n f) (hn : n < maxLen) (hm : a.eval m = .map (some mb)) (s : ByteArray) (hs : s.size ≤ maxLen) (hx : a.eval x = .string s) (u : Value) (hv : a.eval v = u)
    (hK : ∀ w', MapAt w' mb (n + 1) (fun k => if k = s.data.toList then some u else f k) → w.grownBy w' (some mb) → wpList Tryz.prog ops Q rest (a.put o.dst undef) w') : wpList Tryz.prog ops Q (o :: rest) a w := by
  refine wpList_plain hg fun K' hK' => ?_
  obtain ⟨w', hrun, r1, r2⟩ := hmap.put hn hs u
  unfold Oper.wp
  simp [execOp, hop, hm, hx, hv, hrun, Result.andThen]
  exact hK' _ _ (hK w' r1 r2)
end Go.Proofs.YtmpbhngjkbidcaaGreatDoor

/-
  What a board is, in memory; the walks of none and NewBoard.
-/
namespace Go.Proofs.YtmpbhngjkbidcaaGreatDoor
open Go.RowKit Al

/-- The last alert of an event among notices. -/
def lastOf : List Ntc → List UInt8 → Option Alr
  | [], _ => none
  | n :: l, k => match lastOf l k with
    | some a => some a
    | none => if n.a.ev.data.toList = k then some n.a else none
theorem lastOf_snoc (l : List Ntc) (n : Ntc) (k : List UInt8) : lastOf (l ++ [n]) k = if n.a.ev.data.toList = k then some n.a else lastOf l k := by
  induction l with
  | nil => rfl
  | cons m l ih =>
    simp only [List.cons_append, lastOf, ih]
    by_cases h : n.a.ev.data.toList = k
    · rw [if_pos h, if_pos h]
    · rw [if_neg h, if_neg h]

/-- A notice with the places of its memory. -/
structure It where
  n : Ntc
  A : Option Addr
  c : Nat
  S : Option Addr
  sc : Nat
def It.lst (x : It) : List Value := ntL x.n.a x.A x.c x.S x.n.sg.length x.sc
def itCells (L : List It) : List Value := L.flatMap It.lst
theorem itCells_snoc (L : List It) (x : It) : itCells (L ++ [x]) = itCells L ++ x.lst := by simp [itCells]
theorem itCells_len (L : List It) : (itCells L).length = L.length * 10 := by
  induction L with
  | nil => rfl
  | cons x L ih => simp only [itCells, List.flatMap_cons, List.length_append] at ih ⊢; rw [ih]; simp [It.lst]; omega
theorem itCells_one (L : List It) : ∀ u ∈ itCells L, u.oneCell' = true := by
  intro u hu
  unfold itCells at hu
  obtain ⟨x, _, hx⟩ := List.mem_flatMap.1 hu
  simp [It.lst] at hx
  rcases hx with rfl | rfl | rfl | rfl | rfl | rfl | rfl | rfl | rfl | rfl <;> rfl
/-- The memory of a notice lies in the blocks of R. -/
structure ItIn (w : World) (R : Nat → Prop) (x : It) : Prop where
  ok : okA x.n.a = true
  cells : SlR w R 1 x.A x.n.a.cells.length x.c (ints x.n.a.cells)
  sigs : SlR w R 2 x.S x.n.sg.length x.sc (keyCells x.n.sg)
  few : x.n.sg.length ≤ 1048576

/-- A board: its roll, its notices, and for each event the last alert. -/
structure BdAt (w : World) (R : Nat → Prop) (b : Nat) (ks : List (Int × Int)) (q : Int) (K : Option Addr) (kc : Nat) (L : List It) (N : Option Addr) (nc mb : Nat) (G : List UInt8 → Option (Alr × Option Addr × Nat)) : Prop where
  c0 : w.cell? ⟨b, 0, none⟩ = some (.slice K ks.length kc)
  c1 : w.cell? ⟨b, 1, none⟩ = some (.int .i64 q)
  c2 : w.cell? ⟨b, 2, none⟩ = some (.slice N L.length nc)
  c3 : w.cell? ⟨b, 3, none⟩ = some (.map (some mb))
  f2 : w.frozen? ⟨b, 2, none⟩ = false
  keys : SlR w R 2 K ks.length kc (keyCells ks)
  row : w.ownsRow 0 72 10 (.slice N L.length nc) L.length (itCells L)
  its : ∀ x ∈ L, ItIn w R x
  map : MapAt w mb L.length (fun k => (G k).map fun y => y.1.val y.2.1 y.2.2)
  gs : ∀ k y, G k = some y → okA y.1 = true ∧ SlR w R 1 y.2.1 y.1.cells.length y.2.2 (ints y.1.cells)
  gl : ∀ k, (G k).map (·.1) = lastOf (L.map (·.n)) k
  rok : rollOk ks q = true
  max : L.length ≤ 256
  rb : ¬ R b
  rm : ¬ R mb
  bm : b ≠ mb
  nb : ∀ a, N = some a → ¬ R a.block ∧ a.block ≠ b ∧ a.block ≠ mb
  lt : b < w.heap.size ∧ mb < w.heap.size
  rl : ∀ i, R i → i < w.heap.size
/-- The blocks of a board. -/
def BdF (R : Nat → Prop) (b mb : Nat) (N : Option Addr) (i : Nat) : Prop := R i ∨ i = b ∨ i = mb ∨ ∃ a, N = some a ∧ a.block = i
theorem ItIn.keep {w w' : World} {R F : Nat → Prop} {x : It} (h : ItIn w R x) (k : Kp F w w') (hRF : ∀ i, R i → ¬ F i) : ItIn w' R x := ⟨h.ok, h.cells.keep k hRF, h.sigs.keep k hRF, h.few⟩
theorem ItIn.mono {w : World} {R R' : Nat → Prop} {x : It} (h : ItIn w R x) (hR : ∀ i, R i → R' i) : ItIn w R' x := ⟨h.ok, h.cells.mono hR, h.sigs.mono hR, h.few⟩
theorem own_keep {w w' : World} {F : Nat → Prop} {base e sz n : Nat} {v : Value} {xs : List Value} (h : w.ownsRow base e sz v n xs) (k : Kp F w w') (hF : ∀ g, v.ownBlock = some g → ¬ F g) : w'.ownsRow base e sz v n xs := by
  refine ⟨h.1, ?_⟩
  rcases h.2 with h2 | ⟨g, cap, cur, hv, hg, hh, r⟩
  · exact .inl h2
  · have hlt : g < w.heap.size := (Array.getElem?_eq_some_iff.1 hh).1
    exact .inr ⟨g, cap, cur, hv, hg, by rw [k.block g hlt (hF g (by rw [hv]; rfl))]; exact hh, r⟩
theorem BdAt.keep {w w' : World} {R F : Nat → Prop} {b : Nat} {ks : List (Int × Int)} {q : Int} {K : Option Addr} {kc : Nat} {L : List It} {N : Option Addr} {nc mb : Nat} {G : List UInt8 → Option (Alr × Option Addr × Nat)}
    (h : BdAt w R b ks q K kc L N nc mb G) (k : Kp F w w') (hF : ∀ i, BdF R b mb N i → ¬ F i) : BdAt w' R b ks q K kc L N nc mb G := by
  have fb : ¬ F b := hF b (.inr (.inl rfl))
  have fm : ¬ F mb := hF mb (.inr (.inr (.inl rfl)))
  have fr : ∀ i, R i → ¬ F i := fun i hi => hF i (.inl hi)
  have cc : ∀ j, w'.cell? ⟨b, j, none⟩ = w.cell? ⟨b, j, none⟩ := fun j => k.cell (p := ⟨b, j, none⟩) h.lt.1 fb
  refine ⟨(cc 0).trans h.c0, (cc 1).trans h.c1, (cc 2).trans h.c2, (cc 3).trans h.c3, (k.frozen (p := ⟨b, 2, none⟩) h.lt.1 fb).trans h.f2, h.keys.keep k fr, own_keep h.row k (fun g hg => hF g (.inr (.inr (.inr ?_)))),
    fun x hx => (h.its x hx).keep k fr, h.map.keep k fm, fun e y hy => ⟨(h.gs e y hy).1, (h.gs e y hy).2.keep k fr⟩, h.gl, h.rok, h.max, h.rb, h.rm, h.bm, h.nb, ?_, fun i hi => Nat.lt_of_lt_of_le (h.rl i hi) k.size⟩
  · cases hN : N with
    | none => rw [hN] at hg; cases hg
    | some a => rw [hN] at hg; cases hg; exact ⟨a, rfl, rfl⟩
  · have := k.size
    have := h.lt
    omega
/-- A board whose blocks are among those of S. -/
def Bd (w : World) (S : Nat → Prop) (b : Nat) (ks : List (Int × Int)) (q : Int) (ns : List Ntc) : Prop :=
  ∃ R K kc L N nc mb G, BdAt w R b ks q K kc L N nc mb G ∧ L.map (·.n) = ns ∧ ∀ i, BdF R b mb N i → S i
theorem Bd.keep {w w' : World} {S F : Nat → Prop} {b : Nat} {ks : List (Int × Int)} {q : Int} {ns : List Ntc} (h : Bd w S b ks q ns) (k : Kp F w w') (hF : ∀ i, S i → ¬ F i) : Bd w' S b ks q ns := by
  obtain ⟨R, K, kc, L, N, nc, mb, G, h1, h2, h3⟩ := h
  exact ⟨R, K, kc, L, N, nc, mb, G, h1.keep k (fun i hi => hF i (h3 i hi)), h2, h3⟩
theorem Bd.mono {w : World} {S S' : Nat → Prop} {b : Nat} {ks : List (Int × Int)} {q : Int} {ns : List Ntc} (h : Bd w S b ks q ns) (hS : ∀ i, S i → S' i) : Bd w S' b ks q ns := by
  obtain ⟨R, K, kc, L, N, nc, mb, G, h1, h2, h3⟩ := h
  exact ⟨R, K, kc, L, N, nc, mb, G, h1, h2, fun i hi => hS i (h3 i hi)⟩

theorem eqlSomeM (bm : Nat) (w : World) : (binOp .eql 102 (.map (some bm)) (.map none)).run Tryz.prog w = .ok (.bool false) w := by kernel_rfl
theorem eqlNilM (w : World) : (binOp .eql 102 (.map none) (.map none)).run Tryz.prog w = .ok (.bool true) w := by kernel_rfl
set_option maxRecDepth 100000 in
theorem none_ (b mb : Nat) (w : World) (h3 : w.cell? ⟨b, 3, none⟩ = some (.map (some mb))) :
    Calls Tryz.prog 44 #[.pointer (some ⟨b, 0, none⟩)] w fun e w' => e = .returned (.bool false) ∧ w = w' := by
  have q1 := eqlSomeM mb
  go_enter Tryz.func44, Tryz.ntmps44
  go_wp2_with fail
  go_ret
  exact ⟨rfl, rfl⟩
theorem none_zero (b : Nat) (w : World) (h3 : w.cell? ⟨b, 3, none⟩ = some (.map none)) :
    Calls Tryz.prog 44 #[.pointer (some ⟨b, 0, none⟩)] w fun e w' => e = .returned (.bool true) ∧ w = w' := by
  have q1 := eqlNilM
  go_enter Tryz.func44, Tryz.ntmps44
  go_wp2_with fail
  go_ret
  exact ⟨rfl, rfl⟩
theorem none_nil (w : World) :
    Calls Tryz.prog 44 #[.pointer none] w fun e w' => e = .returned (.bool true) ∧ w = w' := by
  go_enter Tryz.func44, Tryz.ntmps44
  go_wp2_with fail
  go_ret
  exact ⟨rfl, rfl⟩

/-- What NewBoard hands back where the roll is valid. -/
def NewT (ks : List (Int × Int)) (q : Int) (w : World) (e : Ending) (w' : World) : Prop := ∃ b, e = .returned (.tuple #[.pointer (some ⟨b, 0, none⟩), .int .i64 0]) ∧ w.heap.size ≤ b ∧ Bd w' (fun i => w.heap.size ≤ i) b ks q [] ∧ Below w.heap.size w w'
theorem rollOk_len {ks : List (Int × Int)} {q : Int} (h : rollOk ks q = true) : ks.length ≤ 8 := by
  unfold rollOk at h
  rw [Bool.and_eq_true, Bool.and_eq_true] at h
  have := inB_true.1 h.2.1
  omega
set_option maxRecDepth 100000 in
set_option maxHeartbeats 1000000 in
theorem newBoard_f (ks : List (Int × Int)) (q : Int) (A : Option Addr) (c : Nat) (w : World) (h : Rin w ks A c) (ho : rollOk ks q = false) :
    Calls Tryz.prog 8 #[rollV ks A c q] w fun e w' => e = .returned (.tuple #[.pointer none, .int .i64 104]) ∧ Below w.heap.size w w' := by
  have HR := Lib.hid h
  have HO := Lib.hid ho
  clear h ho
  go_enter Tryz.func8, Tryz.ntmps8
  go_wp2_with fail
  refine (CheckRoll_is ks q A c _ 104 (errA_f HO.out) (HR.out.below (by (repeat (first | exact Below.refl _ _ | assumption | refine below_drewN ?_ _ | refine Below.drew ?_ | refine Below.setCell ?_ (by first | omega | (simp; done) | (simp; omega)) _ | refine Below.alloc ?_ (by first | omega | (simp; done) | (simp; omega)) _))))).mono ?_
  rintro e w1 ⟨rfl, hb⟩
  obtain ⟨hcw1, hfw1⟩ := bcell hb
  have Hw1 := Lib.hid ((show Below w.heap.size w _ from (by repeat (first | exact Below.refl _ _ | assumption | refine below_drewN ?_ _ | refine Below.drew ?_ | refine Below.setCell ?_ (by first | omega | (simp; done) | (simp; omega)) _ | refine Below.alloc ?_ (by first | omega | (simp; done) | (simp; omega)) _))).trans (hb.mono (by first | omega | (simp; done) | (simp; omega))))
  have hzw1 := hb.size
  try simp at hzw1
  clear hb
  go_wp2_with fail
  go_ret2
  exact ⟨rfl, Hw1.out⟩
set_option maxRecDepth 100000 in
set_option maxHeartbeats 1000000 in
theorem newBoard_t (ks : List (Int × Int)) (q : Int) (A : Option Addr) (c : Nat) (w : World) (h : Rin w ks A c) (ho : rollOk ks q = true) :
    Calls Tryz.prog 8 #[rollV ks A c q] w (NewT ks q w) := by
  have hlen := rollOk_len ho
  have HR := Lib.hid h
  have HO := Lib.hid ho
  clear h ho
  go_enter Tryz.func8, Tryz.ntmps8
  go_wp2_with fail
  refine (CheckRoll_is ks q A c _ 0 (errA_t HO.out) (HR.out.below (by (repeat (first | exact Below.refl _ _ | assumption | refine below_drewN ?_ _ | refine Below.drew ?_ | refine Below.setCell ?_ (by first | omega | (simp; done) | (simp; omega)) _ | refine Below.alloc ?_ (by first | omega | (simp; done) | (simp; omega)) _))))).mono ?_
  rintro e w1 ⟨rfl, hb⟩
  obtain ⟨hcw1, hfw1⟩ := bcell hb
  have Hw1 := Lib.hid ((show Below w.heap.size w _ from (by repeat (first | exact Below.refl _ _ | assumption | refine below_drewN ?_ _ | refine Below.drew ?_ | refine Below.setCell ?_ (by first | omega | (simp; done) | (simp; omega)) _ | refine Below.alloc ?_ (by first | omega | (simp; done) | (simp; omega)) _))).trans (hb.mono (by first | omega | (simp; done) | (simp; omega))))
  have hzw1 := hb.size
  try simp at hzw1
  clear hb
  have hz3 : w.heap.size < w1.heap.size := by omega
  go_wp2_with fail
  refine (CloneKey_ ks A c _ (HR.out.below Hw1.out) (by omega)).mono ?_
  rintro e w2 ⟨A', c', rfl, hown, hbw⟩
  obtain ⟨hcw2, hfw2⟩ := bcell hbw
  have HB := Lib.hid (Hw1.out.trans (hbw.mono Hw1.out.size))
  have HO2 := Lib.hid hown
  have hz2 := hbw.size
  have hz4 : w.heap.size < w2.heap.size := by omega
  have hmm := @run_makeMap Tryz.prog
  clear hbw hown
  go_wp2_with fail
  go_ret2
  have hsz : (w2.setCell ⟨w.heap.size, 0, none⟩ (.slice A' ks.length c')).heap.size = w2.heap.size := by simp
  have kA : ∀ (W : World) (o : Obj), Kp (fun _ => False) W (W.alloc o) := fun W o => Kp.of_below ((Below.refl _ _).alloc (Nat.le_refl _) o)
  have hk : SlR (w2.setCell ⟨w.heap.size, 0, none⟩ (.slice A' ks.length c')) (fun i => w1.heap.size ≤ i ∧ i < w2.heap.size) 2 A' ks.length c' (keyCells ks) :=
    SlR.of_own (ownsRow_setCell_below HO2.out (by show w.heap.size < w1.heap.size; omega) _) (fun i h1 h2 => ⟨h1, by rw [hsz] at h2; exact h2⟩)
  have hm := MapAt.made (w2.setCell ⟨w.heap.size, 0, none⟩ (.slice A' ks.length c'))
  rw [hsz] at hm
  refine ⟨w2.heap.size + 1, rfl, by omega, ⟨fun i => w1.heap.size ≤ i ∧ i < w2.heap.size, A', c', [], none, 0, w2.heap.size, fun _ => none, ?_, rfl, ?_⟩, ?_⟩
  · refine ⟨by simp [go_sem], by simp [go_sem], by simp [go_sem], by simp [go_sem], by simp [go_sem], ?_, World.ownsRow_nil _ _ _ _, by simp, ?_, (fun k y hy => by cases hy), (fun k => rfl), HO.out, by simp, by omega, by omega, by omega, (fun a ha => by cases ha), ?_, ?_⟩
    · exact (hk.keep (kA _ _) (fun _ _ h => h)).keep (kA _ _) (fun _ _ h => h)
    · exact hm.keep (kA _ _) (fun h => h)
    · simp; omega
    · intro i hi; simp; omega
  · rintro i (h | h | h | ⟨a, ha, _⟩)
    · omega
    · omega
    · omega
    · cases ha
  · exact ((HB.out.setCell (by simp) _).alloc (by simp; omega) _).alloc (by simp; omega) _
end Go.Proofs.YtmpbhngjkbidcaaGreatDoor
