/-
  A range over a function whose iterator keeps its state in one cell of its own: the law for the caller.
-/
import Derived.WalkKit
import Derived.WalkMore
import Derived.Deep.AppendLies
import Derived.RangeFuncNested
import Derived.RangeFuncBound
import Derived.RangeFuncCalls
import Derived.RangeFuncLeaves
import Derived.OwnWalkIn
import Derived.TacticsInMore
import Derived.LoopNIn
import Derived.LoopIn
import Derived.Test.YtpphnnijnnfngaaGreatDoorW11
import Derived.RangeFuncBox
namespace Go.Proofs.YtpphnnijnnfngaaGreatDoor
open Go.RowKit
/-- A step that leaves block b as it was. -/
structure KeepB (b : Nat) (A B : World) : Prop where
  size : A.heap.size ≤ B.heap.size
  blk : B.heap[b]? = A.heap[b]?
theorem KeepB.refl (b : Nat) (A : World) : KeepB b A A := ⟨Nat.le_refl _, rfl⟩
theorem KeepB.trans {b : Nat} {A B C : World} (h : KeepB b A B) (k : KeepB b B C) : KeepB b A C := ⟨Nat.le_trans h.size k.size, k.blk.trans h.blk⟩
theorem KeepB.of_below {b n : Nat} {A B : World} (h : Below n A B) (hb : b < n) : KeepB b A B := ⟨h.size, h.block b hb⟩
theorem KeepB.put {b l : Nat} (A : World) (o : Obj) (h : b ≠ l) : KeepB b A (A.putObj l o) := ⟨by simp, World.putObj_heap_other h⟩
theorem KeepsFrom.of_below {B : Nat} {W W' : World} (h : Below W.heap.size W W') : KeepsFrom B W W' := ⟨h.size, fun k _ _ hk _ => (h.block k (Array.getElem?_eq_some_iff.1 hk).1).trans hk⟩
/-- What an iterator promises whose state lies in block Bs: its rounds may be told apart from its own steps by that block alone. -/
def SeqBox {α : Type} (F : Fence) (n : Nat) (P : Program) (g : Nat) (lb : Array Value) (encs : α → Array Value) (Bs : Nat) (S Sp : List α → Prop) (w : World) : Prop :=
  ∀ (l : Nat) (J Jx : List α → World → Prop) (W : World), Below w.heap.size w W → (∀ s A B, J s A → A.grownBy B (some Bs) → J s B) →
    (∀ pre x A, J pre A → YieldAt F (n - 1) P l (encs x) A fun e B =>
      (e = .returned (.bool true) ∧ J (pre ++ [x]) B ∧ KeepB Bs A B) ∨ (e = .returned (.bool false) ∧ Jx (pre ++ [x]) B)) →
    J [] W →
    CallsIn F n P g (#[.func (.yield l) #[] #[]] ++ lb) W fun e B => (∃ v, e = .returned v) ∧ ((∃ xs, S xs ∧ J xs B) ∨ (∃ pre, Sp pre ∧ Jx pre B))
/-- The loop's record and the block of its deferred calls. -/
structure Book (D : Nat) (r : Loop) (W : World) : Prop where
  rc : W.heap[D + 1]? = some (.loop r)
  df : W.heap[D]? = some (.deferred (some []))
theorem Book.lt {D : Nat} {r : Loop} {W : World} (h : Book D r W) : D + 1 < W.heap.size := (Array.getElem?_eq_some_iff.1 h.rc).1
theorem Book.put {D : Nat} {r : Loop} {W : World} (h : Book D r W) (r' : Loop) : Book D r' (W.putObj (D + 1) (.loop r')) :=
  ⟨World.putObj_heap_same h.lt, (World.putObj_heap_other (by omega)).trans h.df⟩
theorem Book.kept {D B : Nat} {r : Loop} {W W' : World} (h : Book D r W) (k : KeepsFrom B W W') (hB : B ≤ D) : Book D r W' :=
  ⟨k.same _ _ (by omega) h.rc rfl, k.same _ _ hB h.df rfl⟩
theorem Book.grown {D b : Nat} {r : Loop} {W W' : World} (h : Book D r W) (hg : W.grownBy W' (some b)) (hb : b < D) : Book D r W' :=
  h.kept (B := D) (KeepsFrom.of_grownBy hg (fun j e => by cases e; exact hb)) (Nat.le_refl _)
theorem wpIn_rangeFunc_box {α : Type} {F : Fence} {n : Nat} {P : Program} {g : Operand} {ps : Array Tmp} {assign body : Code} {Q : Exit → Act → World → Prop} {a : Act} {w : World}
    (hro : F.round = none) (h1 : 1 ≤ n) {gf : Nat} {lb : Array Value} (hg : a.eval g = .func (.func gf) #[] lb) (hFg : F.fn gf) (eg : ∀ args w, (callFunc gf args).run P w = .ok (.enter gf args) w)
    {encs : α → Array Value} {Bs : Nat} {S Sp : List α → Prop} (hseq : SeqBox F (n - 1) P gf lb encs Bs S Sp w) (hBs : Bs < w.heap.size) (hps : ∀ x, (encs x).size = ps.size)
    (I : List α → World → Prop) (Ix : Code → List α → World → Prop) (hI : OwnFrom w.heap.size I) (hIx : ∀ c, OwnFrom w.heap.size (Ix c)) (hIb : ∀ s A B, I s A → A.grownBy B (some Bs) → I s B) (h0 : I [] w)
    (Ax : α → Act → World → Prop) (hAx : ∀ x a', OwnFrom w.heap.size (fun (_ : Unit) W => Ax x a' W))
    (hassign : ∀ (l : Nat) (pre : List α) (x : α) (W : World) (K : Act → World → Prop), I pre W → (∀ a' W', KeepsFrom w.heap.size W W' → KeepB Bs W W' → I pre W' → Ax x a' W' → K a' W') →
      assign.wpIn (F.inRound l) (n - 1 - 1) P (Exit.then K (fun _ _ _ => False)) { tmps := (ps.zip (encs x)).foldl (fun t (p, v) => t.setIfInBounds p v) a.tmps, defers := [] } W)
    (hbody : ∀ (l : Nat) (pre : List α) (x : α) (a' : Act) (W : World), w.heap.size ≤ l → (∃ r, W.heap[l]? = some (.loop r)) → I pre W → Ax x a' W → body.wpIn (F.inRound l) (n - 1 - 1) P (ownPostG w.heap.size (KeepB Bs) I Ix (pre ++ [x]) W) a' W)
    (hdone : ∀ (D : Nat) (xs : List α) (W : World), w.heap.size ≤ D → S xs → I xs W → W.heap[D]? = some (.deferred (some [])) → Q .normal { a with defers := { target := .collected D, args := #[] } :: a.defers } W)
    (hstop : ∀ (D : Nat) (c : Code) (pre : List α) (W : World), w.heap.size ≤ D → Sp pre → Ix c pre W → W.heap[D]? = some (.deferred (some [])) → c.wpIn F n P Q { a with defers := { target := .collected D, args := #[] } :: a.defers } W) :
    (Code.rangeFunc g ps assign body).wpIn F n P Q a w := by
  refine wpIn_rangeFunc fun fn hfn => ?_
  rw [hro]
  obtain ⟨D, hD⟩ : ∃ D, D = w.heap.size := ⟨_, rfl⟩
  have below : ∀ (X : World) (o' : Obj), KeepB Bs X (X.putObj (D + 1) o') := fun X o' => KeepB.put X o' (by omega)
  have hand : ∀ {β : Type} {T : β → World → Prop} (_ : OwnFrom w.heap.size T) {s : β} {X : World} {r : Loop} (r' : Loop), T s X → Book D r X → T s (X.putObj (D + 1) (.loop r')) := fun hT _ _ _ r' hs hb => hT.putObj _ hs (by omega) hb.rc rfl
  let R : LoopState → Option Code → Loop := fun st pe => { state := st, pending := pe, fn, tmps := a.tmps, params := ps, assign, body, defers := w.heap.size }
  obtain ⟨V, hV⟩ : ∃ V, V = (w.alloc (.deferred (some []))).alloc (.loop (R .ready none)) := ⟨_, rfl⟩
  have bV : Book D (R .ready none) V := by
    have e1 := World.alloc_heap_new (w.alloc (.deferred (some []))) (.loop (R .ready none))
    rw [World.size_alloc] at e1
    rw [hV, hD]
    exact ⟨e1, (Below.heap_alloc _ _ _ (by simp)).trans (World.alloc_heap_new w _)⟩
  have hbV : Below w.heap.size w V := by rw [hV]; exact ((Below.refl _ w).alloc (Nat.le_refl _) _).alloc (by simp) _
  have hIV : I [] V := by rw [hV]; exact hI.alloc _ (hI.alloc _ h0)
  refine ⟨D + 1, [{ target := .collected D, args := #[] }], V, { target := .fn (.func gf) lb, args := #[.func (.yield (D + 1)) #[] #[]] }, V, gf, #[.func (.yield (D + 1)) #[] #[]] ++ lb, V, ?_, ?_, ?_, ?_, fun _ => h1, ?_⟩
  · rw [hV, hD]
    exact run_enterLoop_outer _ _ _ _ _
  · simp only [resolve, hg]
    simp [go_sem]
  · intro f' hf'
    simp [Target.leads] at hf'
    subst hf'
    exact hFg
  · simp [invoke, go_sem, eg]
  refine (hseq (D + 1) (fun pre W => I pre W ∧ Book D (R .ready none) W) (fun pre W => ∃ c, Ix c pre W ∧ Book D (R .done (some c)) W) V hbV (fun s A B hs hgr => ⟨hIb s A B hs.1 hgr, hs.2.grown hgr (by omega)⟩) ?_ ⟨hIV, bV⟩).mono ?_
  · rintro pre x W ⟨hi, hb⟩
    refine ⟨fn, _, assign, body, run_yield (P := P) (args := encs x) hb.rc (hps x), roundIn_of_wpIn hfn (hassign _ pre x W _ hi fun a' W' hk hw hi' ha' => ⟨_, run_beginRound (hb.kept hk (Nat.le_of_eq hD.symm)).rc rfl, ?_⟩)⟩
    have hb' : Book D (R .ready none) W' := hb.kept hk (Nat.le_of_eq hD.symm)
    have hbB : Book D (R .busy none) (W'.putObj (D + 1) (.loop (R .busy none))) := hb'.put _
    refine wpIn_mono (hbody _ pre x a' _ (by omega) ⟨_, hbB.rc⟩ (hand hI _ hi' hb') (hand (hAx x a') (s := ()) _ ha' hb')) ?_
    have fin : ∀ (jump : Option Code) (X : World), KeepsFrom w.heap.size (W'.putObj (D + 1) (.loop (R .busy none))) X → Book D (R .busy none) X ∧ (Instr.endRound (D + 1) jump).run P X = .ok (.bool jump.isNone) (X.putObj (D + 1) (.loop (R (if jump.isNone then .ready else .done) jump))) ∧ Book D (R (if jump.isNone then .ready else .done) jump) (X.putObj (D + 1) (.loop (R (if jump.isNone then .ready else .done) jump))) := fun jump X hk' => by
      have hX := hbB.kept hk' (Nat.le_of_eq hD.symm)
      exact ⟨hX, run_endRound (P := P) jump hX.rc, hX.put _⟩
    have left : ∀ (c : Code) (X : World), KeepsFrom w.heap.size (W'.putObj (D + 1) (.loop (R .busy none))) X → Ix c (pre ++ [x]) X → ∃ v X', (Instr.endRound (D + 1) (some c)).run P X = .ok v X' ∧ ((Ending.returned v = .returned (.bool true) ∧ (I (pre ++ [x]) X' ∧ Book D (R .ready none) X') ∧ KeepB Bs W X') ∨ (Ending.returned v = .returned (.bool false) ∧ ∃ c, Ix c (pre ++ [x]) X' ∧ Book D (R .done (some c)) X')) := fun c X hk' hx => by
      obtain ⟨hX, hr, hb4⟩ := fin (some c) X hk'
      exact ⟨_, _, hr, .inr ⟨rfl, c, hand (hIx c) _ hx hX, hb4⟩⟩
    rintro e a3 X hp
    cases e with
    | normal =>
      obtain ⟨hk', hw', hi3⟩ := hp
      obtain ⟨hX, hr, hb4⟩ := fin none X hk'
      exact ⟨_, _, hr, .inl ⟨rfl, ⟨hand hI _ hi3 hX, hb4⟩, ((hw.trans (below _ _)).trans hw').trans (below _ _)⟩⟩
    | ret => exact left .ret X hp.1 hp.2
    | exit id => exact left (.exit id) X hp.1 hp.2
    | goto t => exact left (.goto t) X hp.1 hp.2
    | panic ch => exact hp.elim
    | outgrown => exact hp.elim
  · rintro e X ⟨⟨v, rfl⟩, (⟨xs, hS, hi, hb⟩ | ⟨pre, hSp, c, hi, hb⟩)⟩
    · refine ⟨none, _, run_endLoop (P := P) hb.rc (by simp [R]), ?_⟩
      exact hdone D xs _ (by omega) hS (hand hI _ hi hb) (hb.put _).df
    · refine ⟨some c, _, run_endLoop (P := P) hb.rc (by simp [R]), ?_⟩
      exact hstop D c pre _ (by omega) hSp (hand (hIx c) _ hi hb) (hb.put _).df
section scopes
variable {F : Fence} {n : Nat} {P : Program} {b : Frame} {a : Act} {k : List Item} {cs : List Frame} {w : World} {Q : Exit → Act → World → Prop}
theorem stepR_scope {c : Code} : step P (lone (b.atR a (.code (.scope c) :: k)) cs w) = .next (lone (b.atR a (.code c :: .inScope c :: k)) cs w) := step_lone_go (by simp [stepG, stepG.exec, Frame.atR])
theorem stepR_inScope {c : Code} : step P (lone (b.atR a (.inScope c :: k)) cs w) = .next (lone (b.atR a k) cs w) := step_lone_go (by simp [stepG, stepG.exec, Frame.atR])
/-- A scope through which the run goes without a goto, in a fence. -/
theorem wpIn_scope_straight {c : Code} (h : c.wpIn F n P (Exit.noGoto Q) a w) : (Code.scope c).wpIn F n P Q a w := by
  intro b k cs hro hb hr
  have h0 : (lone (b.atR a (.code (.scope c) :: k)) cs w).fenced P F := fenced_calm hb hr rfl
  obtain ⟨e, a₁, w₁, hq, harr⟩ := h b (.inScope c :: k) cs hro hb hr
  cases e with
  | normal => exact ⟨.normal, a₁, w₁, hq, .head h0 stepR_scope (StepsIn.trans harr (.one (fenced_calm hb hr rfl) stepR_inScope))⟩
  | exit id =>
    have hx : exitTo id (.inScope c :: k) = exitTo id k := by simp [exitTo]
    exact ⟨.exit id, a₁, w₁, hq, fun k' hk => .head h0 stepR_scope (harr.1 k' (by rw [hx]; exact hk)),
      fun hr' hk => let ⟨k₁, h1, h2⟩ := harr.2 hr' (by rw [hx]; exact hk); ⟨k₁, h1, .head h0 stepR_scope h2⟩⟩
  | goto l => exact hq.elim
  | ret => exact ⟨_, a₁, w₁, hq, .of_steps (.one h0 stepR_scope) harr⟩
  | panic ch => exact ⟨_, a₁, w₁, hq, .of_steps (.one h0 stepR_scope) harr⟩
  | outgrown => exact ⟨_, a₁, w₁, hq, .of_steps (.one h0 stepR_scope) harr⟩
end scopes
/-- Appending to a row, in a fence: where the new row lies has a name. -/
theorem wpListIn_append_new {F : Fence} {N : Nat} {P : Program} (w : World) {ops : Array Oper} {rest : List Oper} {o : Oper} {a : Act} {Q : Exit → Act → World → Prop}
    (hg : o.guard = none) (s x : Operand) (t : TypeId) (hop : o.op = .call { callee := .builtin .append, args := #[s, x], argTypes := #[t, t] })
    (base : Nat) (e : TypeId) (i : TypeInfo) (z : Value) (size bytes : Nat) (h1 : P.underlying t = some (.slice e)) (h2 : P.info? e = some i) (h3 : i.zero = some z) (h4 : i.size = size) (h5 : i.bytes = bytes) (h6 : z.cells.size = size) (h7 : 0 < size)
    (v : Value) (k : Nat) (xs : List Value) (hs : a.eval s = v) (hown : w.ownsRow base e size v k xs) (ad : Addr) (m c : Nat) (news : List Value) (hx : a.eval x = .slice (some ad) m c) (hn : news.length = m * size)
    (hc : ∀ j u, news[j]? = some u → w.cell? (ad.add j) = some u) (h1c : ∀ u ∈ news, u.oneCell' = true) (hm : 0 < m) (b1 : k + m ≤ maxLen) (b2 : (k + m) * bytes ≤ 140737488355328) (b3 : base ≤ w.heap.size)
    (hK : ∀ g cap w', w'.ownsRow base e size (.slice (some ⟨g, 0, none⟩) (k + m) cap) (k + m) (xs ++ news) → w.grownBy w' v.ownBlock → g < w'.heap.size → base ≤ g → wpListIn F N P ops Q rest (a.put o.dst (.slice (some ⟨g, 0, none⟩) (k + m) cap)) w') :
    wpListIn F N P ops Q (o :: rest) a w :=
  wpListIn_append_own w hg s x t hop base e i z size bytes h1 h2 h3 h4 h5 h6 h7 v k xs hs hown ad m c news hx hn hc h1c b1 b2 b3 fun v' w' ho hgr _ => by
    obtain ⟨g, cap, rfl, hb, hlt⟩ := ho.form (by omega)
    exact hK g cap w' ho hgr hlt hb
end Go.Proofs.YtpphnnijnnfngaaGreatDoor

/-
  The walk of the sky's cells: an iterator over all cells of a grid, with their directions.
-/
namespace Go.Proofs.YtpphnnijnnfngaaGreatDoor
open Go.RowKit Al

/-- A cell and its direction. -/
abbrev CD := Int × V3
/-- The first cells of a grid. -/
def cellsL (g : Int) (n : Nat) : List CD := (List.range n).map fun c : Nat => ((c : Int), dirV g (c : Int))
theorem cellsL_snoc (g : Int) (n : Nat) : cellsL g (n + 1) = cellsL g n ++ [((n : Int), dirV g n)] := by
  unfold cellsL
  rw [List.range_succ, List.map_append]
  rfl
theorem cellsL_len (g : Int) (n : Nat) : (cellsL g n).length = n := by simp [cellsL]
theorem cellsL_pre (g : Int) {k n : Nat} (h : k ≤ n) : cellsL g k <+: cellsL g n := by
  obtain ⟨d, rfl⟩ : ∃ d, n = k + d := ⟨n - k, by omega⟩
  induction d with
  | zero => exact List.prefix_refl _
  | succ d ih => rw [show k + (d + 1) = (k + d) + 1 by omega, cellsL_snoc]; exact (ih (by omega)).trans (List.prefix_append _ _)
theorem grown_of_below {A B : World} (h : Below A.heap.size A B) : A.grownBy B none := ⟨h.os, h.tape, h.output, h.size, fun k hk _ => h.block k hk⟩
theorem keepB_trans {b : Nat} {A B C : World} (h : KeepB b A B) (k : KeepB b B C) : KeepB b A C := ⟨Nat.le_trans h.1 k.1, k.2.trans h.2⟩
theorem keepB_cell {b : Nat} {A B : World} (h : KeepB b A B) (o : Nat) : B.cell? ⟨b, o, none⟩ = A.cell? ⟨b, o, none⟩ := by
  unfold World.cell?
  simp only [h.2]
set_option maxRecDepth 100000 in
set_option maxHeartbeats 2000000 in
theorem cells1_in (n : Nat) (hn : 1 ≤ n) (l Bn : Nat) (g : Int) (h1 : 1 ≤ g) (h2 : g ≤ 8) (N : Nat) (hN : (N : Int) = 6 * (g * g)) (J Jx : List CD → World → Prop) (hJ : ∀ s A B, J s A → A.grownBy B none → J s B)
    (hY : ∀ pre x W, J pre W → pre.length < N → YieldAt Fence.wide (n - 1) Tryz.prog l #[.int .i64 x.1, v3 x.2] W fun e W' =>
      (e = .returned (.bool true) ∧ J (pre ++ [x]) W' ∧ KeepB Bn W W') ∨ (e = .returned (.bool false) ∧ Jx (pre ++ [x]) W'))
    (W : World) (hB0 : Bn < W.heap.size) (hBn : W.cell? ⟨Bn, 0, none⟩ = some (.int .i64 g)) (h0 : J [] W) :
    CallsIn Fence.wide n Tryz.prog 93 #[.func (.yield l) #[] #[], .pointer (some ⟨Bn, 0, none⟩)] W fun e W' => (∃ v, e = .returned v) ∧
      ((∃ ys, ys = cellsL g N ∧ J ys W') ∨ (∃ pre, pre <+: cellsL g N ∧ Jx pre W')) := by
  have k1 : wrap64 (6 * g) = 6 * g := w64 (by omega) (by omega)
  obtain ⟨m1, m2, m3⟩ := sq_in h1 h2
  have e6 : 6 * g * g = 6 * (g * g) := Int.mul_assoc _ _ _
  have k2 : wrap64 (6 * g * g) = (N : Int) := by rw [e6, hN]; exact w64 (by omega) (by omega)
  have HJ0 := Lib.hid h0
  have HNN := Lib.hid hN
  have hNN : N ≤ 384 := by omega
  clear e6 h0 hN
  refine callsIn_of_wp Tryz.func93 rfl trivial ?_ rfl
  simp only [Tryz.ntmps93, List.size_toArray, List.length_cons, List.length_nil, Nat.reduceAdd, Nat.reduceSub, Array.replicate_succ, Array.replicate_zero, List.push_toArray, List.append_toArray, List.nil_append, List.cons_append]
  gi_wp2
  rw [k2]
  clear k1 k2
  gi_loopw [3, 8] (fun _ i wr => ∃ k : Nat, k ≤ N ∧ i = .int .i64 k ∧ J (cellsL g k) wr ∧ Hid (KeepB Bn W wr)) (fun _ i _ => N - (intOf i).toNat)
  case atStart => exact ⟨0, Nat.zero_le _, rfl, HJ0.out, KeepB.of_below (Below.refl _ _) hB0⟩
  case round =>
    obtain ⟨k, hk, rfl, hJs, hW⟩ := hrel
    have hc : wr.cell? ⟨Bn, 0, none⟩ = some (.int .i64 g) := (keepB_cell hW.out 0).trans hBn
    by_cases hlt : k < N
    · have hlt' : (k : Int) < (N : Int) := by omega
      have hsz := hW.out.1
      gi_wp2_with fail
      refine ⟨trivial, (callsIn_wide.2 (direction_ g k h1 h2 (by omega) (by have := HNN.out; omega) wr)).mono ?_⟩
      rintro e w1 ⟨rfl, hb⟩
      have hJ1 : J (cellsL g k) w1 := hJ _ _ _ hJs (grown_of_below hb)
      have hW1 : Hid (KeepB Bn W w1) := keepB_trans hW.out (KeepB.of_below hb (by omega))
      have hsn : cellsL g k ++ [((k : Int), dirV g k)] = cellsL g (k + 1) := (cellsL_snoc g k).symm
      clear hb
      obtain ⟨fn, tmps, assign, body, hy, hR⟩ := hY (cellsL g k) ((k : Int), dirV g k) w1 hJ1 (by rw [cellsL_len]; exact hlt)
      rw [hsn] at hR
      clear hsn
      gi_wp2
      refine hR.mono ?_
      rintro e W3 (⟨rfl, hJ3, hk3⟩ | ⟨rfl, hJx3⟩)
      · have hW3 := Lib.hid (keepB_trans hW1.out hk3)
        gi_wp2
        go_roundw
        case rel => exact ⟨k + 1, by omega, by go_num, hJ3, hW3⟩
        case measure => simp [intOf]; omega
      · gi_wp2
        refine bodyPost_ret (results_none rfl _ _ _) rfl ?_
        exact ⟨⟨_, rfl⟩, .inr ⟨_, cellsL_pre g (by omega), hJx3⟩⟩
    · obtain rfl : k = N := by omega
      gi_wp2
      go_end0
      exact ⟨⟨_, rfl⟩, .inl ⟨_, rfl, hJs⟩⟩
theorem cells_ (g : Int) (w : World) : Calls Tryz.prog 65 #[.int .i64 g] w fun e w' => e = .returned (.func (.func 93) #[] #[.pointer (some ⟨w.heap.size, 0, none⟩)]) ∧ w' = w.alloc (.cells #[.int .i64 g] 3) := by
  go_enter Tryz.func65, Tryz.ntmps65
  go_wp2_with fail
  go_ret
  exact ⟨rfl, rfl⟩
/-- What cells hands back is a sequence: all cells of the grid, in their order; or a first part of them, where a round has said 'no more'. -/
theorem cells_stops (n : Nat) (hn : 1 ≤ n) (Bn : Nat) (g : Int) (h1 : 1 ≤ g) (h2 : g ≤ 8) (N : Nat) (hN : (N : Int) = 6 * (g * g)) (w : World) (hB0 : Bn < w.heap.size) (hc : w.cell? ⟨Bn, 0, none⟩ = some (.int .i64 g)) :
    SeqStopsK Fence.wide n Tryz.prog 93 #[.pointer (some ⟨Bn, 0, none⟩)] (fun x : CD => #[.int .i64 x.1, v3 x.2]) (KeepB Bn) (fun ys => ys = cellsL g N) (fun pre => pre <+: cellsL g N) N w := fun l J Jx W hW hJ _ hY h0 =>
  cells1_in n hn l Bn g h1 h2 N hN J Jx (fun s A B h hg => hJ s A B none h hg (fun r e => by cases e)) hY W (Nat.lt_of_lt_of_le hB0 hW.size) ((hW.cell (p := ⟨Bn, 0, none⟩) hB0).trans hc) h0
end Go.Proofs.YtpphnnijnnfngaaGreatDoor
