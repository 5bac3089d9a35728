/-
  What a board is, in memory; the walks of none and NewBoard.
-/
import Derived.Test.YtohfofecbdfkgaaGreatDoorU09
import Derived.Test.YtohfofecbdfkgaaGreatDoorU01
import Derived.Test.YtohfofecbdfkgaaGreatDoorCards
import Derived.Test.YtohfofecbdfkgaaGreatDoorTie
import Derived.WalkKit
import Derived.ProofKit
import Derived.OpenShut
import Derived.Deep.DeepHandedRow
import Derived.Lib.LaidTab
import Derived.Stop.LaidErr
namespace Go.Proofs.YtohfofecbdfkgaaGreatDoor
open Go.RowKit Al

/-- The last alert of an event among notices. -/
def lastOf : List Ntc → List UInt8 → Option Alr
  | [], _ => none
  | n :: l, k => match lastOf l k with
    | some a => some a
    | none => if n.a.ev.data.toList = k then some n.a else none
theorem lastOf_snoc (l : List Ntc) (n : Ntc) (k : List UInt8) : lastOf (l ++ [n]) k = if n.a.ev.data.toList = k then some n.a else lastOf l k := by
  induction l with
  | nil => rfl
  | cons m l ih =>
    simp only [List.cons_append, lastOf, ih]
    by_cases h : n.a.ev.data.toList = k
    · rw [if_pos h, if_pos h]
    · rw [if_neg h, if_neg h]

/-- A notice with the places of its memory. -/
structure It where
  n : Ntc
  A : Option Addr
  c : Nat
  S : Option Addr
  sc : Nat
def It.lst (x : It) : List Value := ntL x.n.a x.A x.c x.S x.n.sg.length x.sc
def itCells (L : List It) : List Value := L.flatMap It.lst
theorem itCells_snoc (L : List It) (x : It) : itCells (L ++ [x]) = itCells L ++ x.lst := by simp [itCells]
theorem itCells_len (L : List It) : (itCells L).length = L.length * 10 := by
  induction L with
  | nil => rfl
  | cons x L ih => simp only [itCells, List.flatMap_cons, List.length_append] at ih ⊢; rw [ih]; simp [It.lst]; omega
theorem itCells_one (L : List It) : ∀ u ∈ itCells L, u.oneCell' = true := by
  intro u hu
  unfold itCells at hu
  obtain ⟨x, _, hx⟩ := List.mem_flatMap.1 hu
  simp [It.lst] at hx
  rcases hx with rfl | rfl | rfl | rfl | rfl | rfl | rfl | rfl | rfl | rfl <;> rfl
/-- The memory of a notice lies in the blocks of R. -/
structure ItIn (w : World) (R : Nat → Prop) (x : It) : Prop where
  ok : okA x.n.a = true
  cells : SlR w R 1 x.A x.n.a.cells.length x.c (ints x.n.a.cells)
  sigs : SlR w R 2 x.S x.n.sg.length x.sc (keyCells x.n.sg)
  few : x.n.sg.length ≤ 1048576

/-- A board: its roll, its notices, and for each event the last alert. -/
structure BdAt (w : World) (R : Nat → Prop) (b : Nat) (ks : List (Int × Int)) (q : Int) (K : Option Addr) (kc : Nat) (L : List It) (N : Option Addr) (nc mb : Nat) (G : List UInt8 → Option (Alr × Option Addr × Nat)) : Prop where
  c0 : w.cell? ⟨b, 0, none⟩ = some (.slice K ks.length kc)
  c1 : w.cell? ⟨b, 1, none⟩ = some (.int .i64 q)
  c2 : w.cell? ⟨b, 2, none⟩ = some (.slice N L.length nc)
  c3 : w.cell? ⟨b, 3, none⟩ = some (.map (some mb))
  f2 : w.frozen? ⟨b, 2, none⟩ = false
  keys : SlR w R 2 K ks.length kc (keyCells ks)
  row : w.ownsRow 0 54 10 (.slice N L.length nc) L.length (itCells L)
  its : ∀ x ∈ L, ItIn w R x
  map : MapAt w mb L.length (fun k => (G k).map fun y => y.1.val y.2.1 y.2.2)
  gs : ∀ k y, G k = some y → okA y.1 = true ∧ SlR w R 1 y.2.1 y.1.cells.length y.2.2 (ints y.1.cells)
  gl : ∀ k, (G k).map (·.1) = lastOf (L.map (·.n)) k
  rok : rollOk ks q = true
  max : L.length ≤ 256
  rb : ¬ R b
  rm : ¬ R mb
  bm : b ≠ mb
  nb : ∀ a, N = some a → ¬ R a.block ∧ a.block ≠ b ∧ a.block ≠ mb
  lt : b < w.heap.size ∧ mb < w.heap.size
  rl : ∀ i, R i → i < w.heap.size
/-- The blocks of a board. -/
def BdF (R : Nat → Prop) (b mb : Nat) (N : Option Addr) (i : Nat) : Prop := R i ∨ i = b ∨ i = mb ∨ ∃ a, N = some a ∧ a.block = i
theorem ItIn.keep {w w' : World} {R F : Nat → Prop} {x : It} (h : ItIn w R x) (k : Kp F w w') (hRF : ∀ i, R i → ¬ F i) : ItIn w' R x := ⟨h.ok, h.cells.keep k hRF, h.sigs.keep k hRF, h.few⟩
theorem ItIn.mono {w : World} {R R' : Nat → Prop} {x : It} (h : ItIn w R x) (hR : ∀ i, R i → R' i) : ItIn w R' x := ⟨h.ok, h.cells.mono hR, h.sigs.mono hR, h.few⟩
theorem own_keep {w w' : World} {F : Nat → Prop} {base e sz n : Nat} {v : Value} {xs : List Value} (h : w.ownsRow base e sz v n xs) (k : Kp F w w') (hF : ∀ g, v.ownBlock = some g → ¬ F g) : w'.ownsRow base e sz v n xs := by
  refine ⟨h.1, ?_⟩
  rcases h.2 with h2 | ⟨g, cap, cur, hv, hg, hh, r⟩
  · exact .inl h2
  · have hlt : g < w.heap.size := (Array.getElem?_eq_some_iff.1 hh).1
    exact .inr ⟨g, cap, cur, hv, hg, by rw [k.block g hlt (hF g (by rw [hv]; rfl))]; exact hh, r⟩
theorem BdAt.keep {w w' : World} {R F : Nat → Prop} {b : Nat} {ks : List (Int × Int)} {q : Int} {K : Option Addr} {kc : Nat} {L : List It} {N : Option Addr} {nc mb : Nat} {G : List UInt8 → Option (Alr × Option Addr × Nat)}
    (h : BdAt w R b ks q K kc L N nc mb G) (k : Kp F w w') (hF : ∀ i, BdF R b mb N i → ¬ F i) : BdAt w' R b ks q K kc L N nc mb G := by
  have fb : ¬ F b := hF b (.inr (.inl rfl))
  have fm : ¬ F mb := hF mb (.inr (.inr (.inl rfl)))
  have fr : ∀ i, R i → ¬ F i := fun i hi => hF i (.inl hi)
  have cc : ∀ j, w'.cell? ⟨b, j, none⟩ = w.cell? ⟨b, j, none⟩ := fun j => k.cell (p := ⟨b, j, none⟩) h.lt.1 fb
  refine ⟨(cc 0).trans h.c0, (cc 1).trans h.c1, (cc 2).trans h.c2, (cc 3).trans h.c3, (k.frozen (p := ⟨b, 2, none⟩) h.lt.1 fb).trans h.f2, h.keys.keep k fr, own_keep h.row k (fun g hg => hF g (.inr (.inr (.inr ?_)))),
    fun x hx => (h.its x hx).keep k fr, h.map.keep k fm, fun e y hy => ⟨(h.gs e y hy).1, (h.gs e y hy).2.keep k fr⟩, h.gl, h.rok, h.max, h.rb, h.rm, h.bm, h.nb, ?_, fun i hi => Nat.lt_of_lt_of_le (h.rl i hi) k.size⟩
  · cases hN : N with
    | none => rw [hN] at hg; cases hg
    | some a => rw [hN] at hg; cases hg; exact ⟨a, rfl, rfl⟩
  · have := k.size
    have := h.lt
    omega
/-- A board whose blocks are among those of S. -/
def Bd (w : World) (S : Nat → Prop) (b : Nat) (ks : List (Int × Int)) (q : Int) (ns : List Ntc) : Prop :=
  ∃ R K kc L N nc mb G, BdAt w R b ks q K kc L N nc mb G ∧ L.map (·.n) = ns ∧ ∀ i, BdF R b mb N i → S i
theorem Bd.keep {w w' : World} {S F : Nat → Prop} {b : Nat} {ks : List (Int × Int)} {q : Int} {ns : List Ntc} (h : Bd w S b ks q ns) (k : Kp F w w') (hF : ∀ i, S i → ¬ F i) : Bd w' S b ks q ns := by
  obtain ⟨R, K, kc, L, N, nc, mb, G, h1, h2, h3⟩ := h
  exact ⟨R, K, kc, L, N, nc, mb, G, h1.keep k (fun i hi => hF i (h3 i hi)), h2, h3⟩
theorem Bd.mono {w : World} {S S' : Nat → Prop} {b : Nat} {ks : List (Int × Int)} {q : Int} {ns : List Ntc} (h : Bd w S b ks q ns) (hS : ∀ i, S i → S' i) : Bd w S' b ks q ns := by
  obtain ⟨R, K, kc, L, N, nc, mb, G, h1, h2, h3⟩ := h
  exact ⟨R, K, kc, L, N, nc, mb, G, h1, h2, fun i hi => hS i (h3 i hi)⟩

theorem eqlSomeM (bm : Nat) (w : World) : (binOp .eql 100 (.map (some bm)) (.map none)).run Tryz.prog w = .ok (.bool false) w := by kernel_rfl
theorem eqlNilM (w : World) : (binOp .eql 100 (.map none) (.map none)).run Tryz.prog w = .ok (.bool true) w := by kernel_rfl
set_option maxRecDepth 100000 in
theorem none_ (b mb : Nat) (w : World) (h3 : w.cell? ⟨b, 3, none⟩ = some (.map (some mb))) :
    Calls Tryz.prog 57 #[.pointer (some ⟨b, 0, none⟩)] w fun e w' => e = .returned (.bool false) ∧ w = w' := by
  have q1 := eqlSomeM mb
  go_enter Tryz.func57, Tryz.ntmps57
  go_wp2_with fail
  go_ret
  exact ⟨rfl, rfl⟩
theorem none_zero (b : Nat) (w : World) (h3 : w.cell? ⟨b, 3, none⟩ = some (.map none)) :
    Calls Tryz.prog 57 #[.pointer (some ⟨b, 0, none⟩)] w fun e w' => e = .returned (.bool true) ∧ w = w' := by
  have q1 := eqlNilM
  go_enter Tryz.func57, Tryz.ntmps57
  go_wp2_with fail
  go_ret
  exact ⟨rfl, rfl⟩
theorem none_nil (w : World) :
    Calls Tryz.prog 57 #[.pointer none] w fun e w' => e = .returned (.bool true) ∧ w = w' := by
  go_enter Tryz.func57, Tryz.ntmps57
  go_wp2_with fail
  go_ret
  exact ⟨rfl, rfl⟩

/-- What NewBoard hands back where the roll is valid. -/
def NewT (ks : List (Int × Int)) (q : Int) (w : World) (e : Ending) (w' : World) : Prop := ∃ b, e = .returned (.tuple #[.pointer (some ⟨b, 0, none⟩), .int .i64 0]) ∧ w.heap.size ≤ b ∧ Bd w' (fun i => w.heap.size ≤ i) b ks q [] ∧ Below w.heap.size w w'
theorem rollOk_len {ks : List (Int × Int)} {q : Int} (h : rollOk ks q = true) : ks.length ≤ 8 := by
  unfold rollOk at h
  rw [Bool.and_eq_true, Bool.and_eq_true] at h
  have := inB_true.1 h.2.1
  omega
set_option maxRecDepth 100000 in
set_option maxHeartbeats 1000000 in
theorem newBoard_f (ks : List (Int × Int)) (q : Int) (A : Option Addr) (c : Nat) (w : World) (h : Rin w ks A c) (ho : rollOk ks q = false) :
    Calls Tryz.prog 16 #[rollV ks A c q] w fun e w' => e = .returned (.tuple #[.pointer none, .int .i64 104]) ∧ Below w.heap.size w w' := by
  have HR := Lib.hid h
  have HO := Lib.hid ho
  clear h ho
  go_enter Tryz.func16, Tryz.ntmps16
  go_wp2_with fail
  refine (CheckRoll_is ks q A c _ 104 (errA_f HO.out) (HR.out.below (by (repeat (first | exact Below.refl _ _ | assumption | refine below_drewN ?_ _ | refine Below.drew ?_ | refine Below.setCell ?_ (by first | omega | (simp; done) | (simp; omega)) _ | refine Below.alloc ?_ (by first | omega | (simp; done) | (simp; omega)) _))))).mono ?_
  rintro e w1 ⟨rfl, hb⟩
  obtain ⟨hcw1, hfw1⟩ := bcell hb
  have Hw1 := Lib.hid ((show Below w.heap.size w _ from (by repeat (first | exact Below.refl _ _ | assumption | refine below_drewN ?_ _ | refine Below.drew ?_ | refine Below.setCell ?_ (by first | omega | (simp; done) | (simp; omega)) _ | refine Below.alloc ?_ (by first | omega | (simp; done) | (simp; omega)) _))).trans (hb.mono (by first | omega | (simp; done) | (simp; omega))))
  have hzw1 := hb.size
  try simp at hzw1
  clear hb
  go_wp2_with fail
  go_ret2
  exact ⟨rfl, Hw1.out⟩
set_option maxRecDepth 100000 in
set_option maxHeartbeats 1000000 in
theorem newBoard_t (ks : List (Int × Int)) (q : Int) (A : Option Addr) (c : Nat) (w : World) (h : Rin w ks A c) (ho : rollOk ks q = true) :
    Calls Tryz.prog 16 #[rollV ks A c q] w (NewT ks q w) := by
  have hlen := rollOk_len ho
  have HR := Lib.hid h
  have HO := Lib.hid ho
  clear h ho
  go_enter Tryz.func16, Tryz.ntmps16
  go_wp2_with fail
  refine (CheckRoll_is ks q A c _ 0 (errA_t HO.out) (HR.out.below (by (repeat (first | exact Below.refl _ _ | assumption | refine below_drewN ?_ _ | refine Below.drew ?_ | refine Below.setCell ?_ (by first | omega | (simp; done) | (simp; omega)) _ | refine Below.alloc ?_ (by first | omega | (simp; done) | (simp; omega)) _))))).mono ?_
  rintro e w1 ⟨rfl, hb⟩
  obtain ⟨hcw1, hfw1⟩ := bcell hb
  have Hw1 := Lib.hid ((show Below w.heap.size w _ from (by repeat (first | exact Below.refl _ _ | assumption | refine below_drewN ?_ _ | refine Below.drew ?_ | refine Below.setCell ?_ (by first | omega | (simp; done) | (simp; omega)) _ | refine Below.alloc ?_ (by first | omega | (simp; done) | (simp; omega)) _))).trans (hb.mono (by first | omega | (simp; done) | (simp; omega))))
  have hzw1 := hb.size
  try simp at hzw1
  clear hb
  have hz3 : w.heap.size < w1.heap.size := by omega
  go_wp2_with fail
  refine (CloneKey_ ks A c _ (HR.out.below Hw1.out) (by omega)).mono ?_
  rintro e w2 ⟨A', c', rfl, hown, hbw⟩
  obtain ⟨hcw2, hfw2⟩ := bcell hbw
  have HB := Lib.hid (Hw1.out.trans (hbw.mono Hw1.out.size))
  have HO2 := Lib.hid hown
  have hz2 := hbw.size
  have hz4 : w.heap.size < w2.heap.size := by omega
  have hmm := @run_makeMap Tryz.prog
  clear hbw hown
  go_wp2_with fail
  go_ret2
  have hsz : (w2.setCell ⟨w.heap.size, 0, none⟩ (.slice A' ks.length c')).heap.size = w2.heap.size := by simp
  have kA : ∀ (W : World) (o : Obj), Kp (fun _ => False) W (W.alloc o) := fun W o => Kp.of_below ((Below.refl _ _).alloc (Nat.le_refl _) o)
  have hk : SlR (w2.setCell ⟨w.heap.size, 0, none⟩ (.slice A' ks.length c')) (fun i => w1.heap.size ≤ i ∧ i < w2.heap.size) 2 A' ks.length c' (keyCells ks) :=
    SlR.of_own (ownsRow_setCell_below HO2.out (by show w.heap.size < w1.heap.size; omega) _) (fun i h1 h2 => ⟨h1, by rw [hsz] at h2; exact h2⟩)
  have hm := MapAt.made (w2.setCell ⟨w.heap.size, 0, none⟩ (.slice A' ks.length c'))
  rw [hsz] at hm
  refine ⟨w2.heap.size + 1, rfl, by omega, ⟨fun i => w1.heap.size ≤ i ∧ i < w2.heap.size, A', c', [], none, 0, w2.heap.size, fun _ => none, ?_, rfl, ?_⟩, ?_⟩
  · refine ⟨by simp [go_sem], by simp [go_sem], by simp [go_sem], by simp [go_sem], by simp [go_sem], ?_, World.ownsRow_nil _ _ _ _, by simp, ?_, (fun k y hy => by cases hy), (fun k => rfl), HO.out, by simp, by omega, by omega, by omega, (fun a ha => by cases ha), ?_, ?_⟩
    · exact (hk.keep (kA _ _) (fun _ _ h => h)).keep (kA _ _) (fun _ _ h => h)
    · exact hm.keep (kA _ _) (fun h => h)
    · simp; omega
    · intro i hi; simp; omega
  · rintro i (h | h | h | ⟨a, ha, _⟩)
    · omega
    · omega
    · omega
    · cases ha
  · exact ((HB.out.setCell (by simp) _).alloc (by simp; omega) _).alloc (by simp; omega) _
end Go.Proofs.YtohfofecbdfkgaaGreatDoor

/-
  How the laws' arguments read.
-/
namespace Go.Proofs.YtohfofecbdfkgaaGreatDoor
open Go.RowKit Al

theorem cInt : Tryz.prog.cellsOf 3 = 1 := by kernel_rfl
theorem cStr : Tryz.prog.cellsOf 9 = 1 := by kernel_rfl
theorem cBool : Tryz.prog.cellsOf 4 = 1 := by kernel_rfl
theorem cChance : Tryz.prog.cellsOf 46 = 2 := by kernel_rfl
theorem cInts : Tryz.prog.cellsOf 39 = 1 := by kernel_rfl
theorem cAlert : Tryz.prog.cellsOf 48 = 9 := by kernel_rfl
theorem cKey : Tryz.prog.cellsOf 36 = 2 := by kernel_rfl
theorem cKeys : Tryz.prog.cellsOf 22 = 1 := by kernel_rfl
theorem cSig : Tryz.prog.cellsOf 106 = 2 := by kernel_rfl
theorem cSigs : Tryz.prog.cellsOf 52 = 1 := by kernel_rfl
theorem cRoll : Tryz.prog.cellsOf 24 = 2 := by kernel_rfl
theorem cNotice : Tryz.prog.cellsOf 54 = 10 := by kernel_rfl
theorem bInt : Tryz.prog.bytesOf 3 = 8 := by kernel_rfl
theorem bKey : Tryz.prog.bytesOf 36 = 16 := by kernel_rfl
theorem bSig : Tryz.prog.bytesOf 106 = 16 := by kernel_rfl
theorem list2 {l : List Value} (h : l.length = 2) : ∃ a b, l = [a, b] := by
  match l, h with
  | [a, b], _ => exact ⟨a, b, rfl⟩
theorem list9 {l : List Value} (h : l.length = 9) : ∃ c0 c1 c2 c3 c4 c5 c6 c7 c8, l = [c0, c1, c2, c3, c4, c5, c6, c7, c8] := by
  match l, h with
  | [c0, c1, c2, c3, c4, c5, c6, c7, c8], _ => exact ⟨_, _, _, _, _, _, _, _, _, rfl⟩
theorem list10 {l : List Value} (h : l.length = 10) : ∃ c0 c1 c2 c3 c4 c5 c6 c7 c8 c9, l = [c0, c1, c2, c3, c4, c5, c6, c7, c8, c9] := by
  match l, h with
  | [c0, c1, c2, c3, c4, c5, c6, c7, c8, c9], _ => exact ⟨_, _, _, _, _, _, _, _, _, _, rfl⟩
theorem reach47 : reachBytes ≤ 140737488355328 := by decide

section
variable {H : Type} {enc : TypeId × Value → H} {w : World} {B : Nat} {cs : List Value}
theorem ints_open (h : Rdg enc w B 39 cs) : ∃ (A : Option Addr) (c : Nat) (l : List Int), cs = [.slice A l.length c] ∧ Sl w B 1 A l.length c (ints l) ∧ l.length * 8 ≤ 140737488355328 ∧ ∀ n ∈ l, (Lit.int .i64 n).wf = true := by
  obtain ⟨A, c, ys, h1, h2, h3, h4⟩ := h.rows Tryz.underlying39 cInt (by decide) (fun n : Int => [.int .i64 n]) (fun n => (Lit.int .i64 n).wf = true) (fun cs' hc => by
    obtain ⟨n, hn, hw⟩ := hc.int Tryz.underlying3
    exact ⟨n, hn, hw⟩)
  rw [bInt] at h3
  refine ⟨A, c, ys, h1, ?_, Nat.le_trans h3 reach47, h4⟩
  have e : ys.flatMap (fun n : Int => [Value.int .i64 n]) = ints ys := by
    clear h1 h2 h3 h4
    induction ys with
    | nil => rfl
    | cons y r ih => rw [List.flatMap_cons, ih]; rfl
  rw [e] at h2
  exact h2
theorem pair_open {t : TypeId} {f1 f2 : Field} (hu : Tryz.prog.underlying t = some (.struct #[f1, f2])) (h1 : f1.type = 3 ∧ f1.offset = 0) (h2 : f2.type = 3 ∧ f2.offset = 1) (hc : Tryz.prog.cellsOf t = 2) (h : Rdg enc w B t cs) :
    ∃ k : Int × Int, cs = [.int .i64 k.1, .int .i64 k.2] ∧ (Lit.int .i64 k.1).wf = true ∧ (Lit.int .i64 k.2).wf = true := by
  obtain ⟨hl, hf⟩ := h.struct hu
  rw [hc] at hl
  obtain ⟨a, b, rfl⟩ := list2 hl
  have ha := hf 0 f1 rfl
  have hb := hf 1 f2 rfl
  rw [h1.1, h1.2, cInt] at ha
  rw [h2.1, h2.2, cInt] at hb
  obtain ⟨x, hx, wx⟩ := ha.int Tryz.underlying3
  obtain ⟨y, hy, wy⟩ := hb.int Tryz.underlying3
  simp at hx hy
  exact ⟨(x, y), by rw [hx, hy], wx, wy⟩
theorem key_open (h : Rdg enc w B 36 cs) : ∃ k : Int × Int, cs = [.int .i64 k.1, .int .i64 k.2] ∧ (Lit.int .i64 k.1).wf = true ∧ (Lit.int .i64 k.2).wf = true :=
  pair_open Tryz.underlying36 ⟨rfl, rfl⟩ ⟨rfl, rfl⟩ cKey h
theorem sig_open (h : Rdg enc w B 106 cs) : ∃ k : Int × Int, cs = [.int .i64 k.1, .int .i64 k.2] ∧ (Lit.int .i64 k.1).wf = true ∧ (Lit.int .i64 k.2).wf = true :=
  pair_open Tryz.underlying106 ⟨rfl, rfl⟩ ⟨rfl, rfl⟩ cSig h
theorem keys_open (h : Rdg enc w B 22 cs) : ∃ (A : Option Addr) (c : Nat) (l : List (Int × Int)), cs = [.slice A l.length c] ∧ Sl w B 2 A l.length c (keyCells l) := by
  obtain ⟨A, c, ys, h1, h2, _, _⟩ := h.rows Tryz.underlying22 cKey (by decide) (fun k : Int × Int => [.int .i64 k.1, .int .i64 k.2]) (fun _ => True) (fun cs' hc => by
    obtain ⟨n, hn, _⟩ := key_open hc
    exact ⟨n, hn, trivial⟩)
  exact ⟨A, c, ys, h1, h2⟩
theorem sigs_open (h : Rdg enc w B 52 cs) : ∃ (A : Option Addr) (c : Nat) (l : List (Int × Int)), cs = [.slice A l.length c] ∧ Sl w B 2 A l.length c (keyCells l) ∧ l.length * 16 ≤ 140737488355328 := by
  obtain ⟨A, c, ys, h1, h2, h3, _⟩ := h.rows Tryz.underlying52 cSig (by decide) (fun k : Int × Int => [.int .i64 k.1, .int .i64 k.2]) (fun _ => True) (fun cs' hc => by
    obtain ⟨n, hn, _⟩ := sig_open hc
    exact ⟨n, hn, trivial⟩)
  rw [bSig] at h3
  exact ⟨A, c, ys, h1, h2, Nat.le_trans h3 reach47⟩
theorem roll_open (h : Rdg enc w B 24 cs) : ∃ (A : Option Addr) (c : Nat) (l : List (Int × Int)) (q : Int), cs = [.slice A l.length c, .int .i64 q] ∧ Sl w B 2 A l.length c (keyCells l) := by
  obtain ⟨hl, hf⟩ := h.struct Tryz.underlying24
  rw [cRoll] at hl
  obtain ⟨a, b, rfl⟩ := list2 hl
  have ha : Rdg enc w B 22 ((([a, b] : List Value).drop 0).take (Tryz.prog.cellsOf 22)) := hf 0 _ rfl
  have hb : Rdg enc w B 3 ((([a, b] : List Value).drop 1).take (Tryz.prog.cellsOf 3)) := hf 1 _ rfl
  rw [cKeys] at ha
  rw [cInt] at hb
  obtain ⟨A, c, l, hx, hs⟩ := keys_open ha
  obtain ⟨q, hq, _⟩ := hb.int Tryz.underlying3
  simp at hx hq
  exact ⟨A, c, l, q, by rw [hx, hq], hs⟩
/-- The numbers of an alert are numbers of 64 bits. -/
structure AWf (a : Alr) : Prop where
  ver : (Lit.int .i64 a.ver).wf = true
  tm : (Lit.int .i64 a.tm).wf = true
  n : (Lit.int .i64 a.n).wf = true
  of : (Lit.int .i64 a.of).wf = true
  grid : (Lit.int .i64 a.grid).wf = true
  before : (Lit.int .i64 a.before).wf = true
theorem alr_open (h : Rdg enc w B 48 cs) : ∃ (a : Alr) (A : Option Addr) (c : Nat), cs = a.lst A c ∧ a.ev.size ≤ maxLen ∧ Sl w B 1 A a.cells.length c (ints a.cells) ∧ a.cells.length * 8 ≤ 140737488355328 ∧ AWf a := by
  obtain ⟨hl, hf⟩ := h.struct Tryz.underlying48
  rw [cAlert] at hl
  obtain ⟨c0, c1, c2, c3, c4, c5, c6, c7, c8, rfl⟩ := list9 hl
  have h0 : Rdg enc w B 9 ((([c0, c1, c2, c3, c4, c5, c6, c7, c8] : List Value).drop 0).take (Tryz.prog.cellsOf 9)) := hf 0 _ rfl
  rw [cStr] at h0
  have h1 : Rdg enc w B 3 ((([c0, c1, c2, c3, c4, c5, c6, c7, c8] : List Value).drop 1).take (Tryz.prog.cellsOf 3)) := hf 1 _ rfl
  rw [cInt] at h1
  have h2 : Rdg enc w B 3 ((([c0, c1, c2, c3, c4, c5, c6, c7, c8] : List Value).drop 2).take (Tryz.prog.cellsOf 3)) := hf 2 _ rfl
  rw [cInt] at h2
  have h3 : Rdg enc w B 46 ((([c0, c1, c2, c3, c4, c5, c6, c7, c8] : List Value).drop 3).take (Tryz.prog.cellsOf 46)) := hf 3 _ rfl
  rw [cChance] at h3
  have h5 : Rdg enc w B 3 ((([c0, c1, c2, c3, c4, c5, c6, c7, c8] : List Value).drop 5).take (Tryz.prog.cellsOf 3)) := hf 4 _ rfl
  rw [cInt] at h5
  have h6 : Rdg enc w B 39 ((([c0, c1, c2, c3, c4, c5, c6, c7, c8] : List Value).drop 6).take (Tryz.prog.cellsOf 39)) := hf 5 _ rfl
  rw [cInts] at h6
  have h7 : Rdg enc w B 4 ((([c0, c1, c2, c3, c4, c5, c6, c7, c8] : List Value).drop 7).take (Tryz.prog.cellsOf 4)) := hf 6 _ rfl
  rw [cBool] at h7
  have h8 : Rdg enc w B 3 ((([c0, c1, c2, c3, c4, c5, c6, c7, c8] : List Value).drop 8).take (Tryz.prog.cellsOf 3)) := hf 7 _ rfl
  rw [cInt] at h8
  obtain ⟨ev, e0, hev⟩ := h0.string Tryz.underlying9
  obtain ⟨ver, e1, w1⟩ := h1.int Tryz.underlying3
  obtain ⟨tm, e2, w2⟩ := h2.int Tryz.underlying3
  obtain ⟨k, e3, w3, w4⟩ := pair_open Tryz.underlying46 ⟨rfl, rfl⟩ ⟨rfl, rfl⟩ cChance h3
  obtain ⟨g, e5, w5⟩ := h5.int Tryz.underlying3
  obtain ⟨A, c, l, e6, hs, hb, _⟩ := ints_open h6
  obtain ⟨wd, e7⟩ := h7.bool Tryz.underlying4
  obtain ⟨bf, e8, w8⟩ := h8.int Tryz.underlying3
  simp at e0 e1 e2 e3 e5 e6 e7 e8
  exact ⟨⟨ev, ver, tm, k.1, k.2, g, l, wd, bf⟩, A, c, by rw [e0, e1, e2, e3.1, e3.2, e5, e6, e7, e8], hev, hs, hb, ⟨w1, w2, w3, w4, w5, w8⟩⟩
/-- A notice lies below B. -/
structure NtB (w : World) (B : Nat) (x : It) : Prop where
  ev : x.n.a.ev.size ≤ maxLen
  cells : Sl w B 1 x.A x.n.a.cells.length x.c (ints x.n.a.cells)
  sigs : Sl w B 2 x.S x.n.sg.length x.sc (keyCells x.n.sg)
  few : x.n.a.cells.length * 8 ≤ 140737488355328
  few2 : x.n.sg.length * 16 ≤ 140737488355328
  wf : AWf x.n.a
theorem ntc_open (h : Rdg enc w B 54 cs) : ∃ x : It, cs = x.lst ∧ NtB w B x := by
  obtain ⟨hl, hf⟩ := h.struct Tryz.underlying54
  rw [cNotice] at hl
  obtain ⟨c0, c1, c2, c3, c4, c5, c6, c7, c8, c9, rfl⟩ := list10 hl
  have h0 : Rdg enc w B 48 ((([c0, c1, c2, c3, c4, c5, c6, c7, c8, c9] : List Value).drop 0).take (Tryz.prog.cellsOf 48)) := hf 0 _ rfl
  have h1 : Rdg enc w B 52 ((([c0, c1, c2, c3, c4, c5, c6, c7, c8, c9] : List Value).drop 9).take (Tryz.prog.cellsOf 52)) := hf 1 _ rfl
  rw [cAlert] at h0
  rw [cSigs] at h1
  obtain ⟨a, A, c, e0, hev, hs, hb, hw⟩ := alr_open h0
  obtain ⟨S, sc, sg, e1, hs2, hb2⟩ := sigs_open h1
  simp at e0 e1
  obtain ⟨e0, e2, e3, e4, e5, e6, e7, e8, e9⟩ := e0
  exact ⟨⟨⟨a, sg⟩, A, c, S, sc⟩, by rw [e0, e2, e3, e4, e5, e6, e7, e8, e9, e1]; rfl, hev, hs, hs2, hb, hb2, hw⟩
end
end Go.Proofs.YtohfofecbdfkgaaGreatDoor

/-
  The frame of every law of the seat: from a walk to the row's statement.
-/
namespace Go.Proofs.YtohfofecbdfkgaaGreatDoor
open Go.ChangeShapes Go.WideShapes Go.ChangeAt Go.RowKit Al

theorem own : ownKnob Tryz.prog.godebug = none := by kernel_rfl
theorem laidOut : laidOutB Tryz.prog = true := by kernel_rfl
/-- What the rows list. -/
def tabs : List (String × DataW Unit) := [("math/bits.deBruijn32tab", Rows.laid_math_bits_deBruijn32tab), ("math/bits.deBruijn64tab", Rows.laid_math_bits_deBruijn64tab), ("internal/strconv.uint64pow10", Rows.laid_internal_strconv_uint64pow10)]
theorem gTabType : (Tryz.prog.globals[5]?).map (·.type) = some 240 := by kernel_rfl
theorem cTab : Tryz.prog.cellsOf 240 = 20 := by kernel_rfl
theorem cU64 : Tryz.prog.cellsOf 192 = 1 := by kernel_rfl
def z64 : List Int := [0, 1, 56, 2, 57, 49, 28, 3, 61, 58, 42, 50, 38, 29, 17, 4, 62, 47, 59, 36, 45, 43, 51, 22, 53, 39, 33, 30, 24, 18, 12, 5, 63, 55, 48, 27, 60, 41, 37, 16, 46, 35, 44, 21, 52, 32, 23, 11, 54, 26, 40, 15, 34, 20, 31, 10, 25, 14, 19, 9, 13, 8, 7, 6]
theorem g64 : Tryz.prog.globalNamed "math/bits.deBruijn64tab" = some 7 := by kernel_rfl
theorem g64Type : (Tryz.prog.globals[7]?).map (·.type) = some 243 := by kernel_rfl
theorem c64 : Tryz.prog.cellsOf 243 = 64 := by kernel_rfl
theorem cU8 : Tryz.prog.cellsOf 5 = 1 := by kernel_rfl
theorem tabOf {W : World} (h : laidMetH Tryz.prog tabs W) : Tab W :=
  Lib.tabIs_of_head (rest := []) gTab gTabType Tryz.underlying240 Tryz.underlying192 cU64 cTab (laidMet.tail (laidMet.tail h))
theorem rdyOf {W : World} (h : laidMetH Tryz.prog tabs W) : Rdy W := by
  have ht := tabOf h
  refine ⟨ht, ?_⟩
  have h2 : Lib.TabIs Tryz.prog W "math/bits.deBruijn64tab" .u8 _ := Lib.tabIs_of_head (zs := z64) (rest := [("internal/strconv.uint64pow10", Rows.laid_internal_strconv_uint64pow10)]) g64 g64Type Tryz.underlying243 Tryz.underlying5 cU8 c64 (laidMet.tail h)
  have hc := Lib.TabIs.cell h2 g64 0 (by decide)
  unfold World.cell? at hc
  split at hc
  · rename_i hb
    have := (Array.getElem?_eq_some_iff.1 hb).1
    simp at this
    omega
  · cases hc

section
variable {H : Type} {enc : TypeId × Value → H}
theorem args_again {W W' : World} (hb : Below W.heap.size W W') {sp : Nat → Bool} : ∀ {ts : List TypeId} {vs : List Value} {ds : List (DataW H)} {p : List MemPlace}, DataW.TrodAll enc Tryz.prog W 0 (fun _ => true) true ts vs ds p →
    (∀ t ∈ ts, Tryz.prog.readableRec t = true ∧ t < Tryz.prog.types.size) → (∀ x ∈ p, x.block < W.heap.size) → (∀ x ∈ p, sp x.block = true) → DataW.TrodAll enc Tryz.prog W' 0 sp true ts vs ds p
  | [], vs, ds, p, h, _, _, _ => by
    cases vs <;> cases ds <;> simp [DataW.TrodAll] at h
    subst h
    rfl
  | t :: ts, vs, ds, p, h, ht, hl, hs => by
    obtain ⟨v, vs', d, ds', q, r, rfl, rfl, rfl, h1, h2⟩ := trodAll_cons h
    obtain ⟨r1, r2⟩ := ht t (by simp)
    exact trodAll_cons_mk (WideElems.Trod_stays laidOut r1 r2 h1 (fun x hx => hb.same (hl x (List.mem_append.2 (.inl hx)))) (fun x hx => hs x (List.mem_append.2 (.inl hx))))
      (args_again hb h2 (fun t ht' => ht t (by simp [ht'])) (fun x hx => hl x (List.mem_append.2 (.inr hx))) (fun x hx => hs x (List.mem_append.2 (.inr hx))))
/-- What a law's call leaves, from its walk. -/
theorem lawPost {f : Func} {s : ChangeSpec} {W W' : World} {args : Array Value} {ds gs : List (DataW H)} {before : List MemPlace} (hW : DataW.Whole enc Tryz.prog f.params.toList s.vars false W args.toList ds gs before) (hv : s.vars = []) (hres : f.resultTypes = #[4])
    (hspec : s.fn H (ds ++ gs) = { results := [.lit (.bool true)], args := ds }) (hts : ∀ t ∈ f.params.toList, Tryz.prog.readableRec t = true ∧ t < Tryz.prog.types.size) (hb : Below W.heap.size W W') :
    s.post enc Tryz.prog f false true false false W args (.bool true) W' := by
  have hlt : ∀ p ∈ before, p.block < W.heap.size := fun p hp => hW.lt p hp
  have hW' := hW
  obtain ⟨p, q, hA, hV, rfl, _, _⟩ := hW
  rw [hv] at hV
  obtain ⟨_, rfl⟩ := trodVars_none hV
  refine ⟨ds, gs, _, [], p, [], hW', ?_, ?_, ?_, World.keptBut_mono (fun x hx => ⟨hx, .inr (.inl (by simpa using hx))⟩) (hb.frame (· ∈ p ++ [])), fun h => by cases h⟩
  · rw [hspec, hres]
    exact trodAll_cons_mk (shut_bool Tryz.underlying4 _) trodAll_mk0
  · rw [hspec]
    exact args_again hb hA hts (fun x hx => hlt x (by simp [hx])) (fun x hx => by simpa using hlt x (by simp [hx]))
  · rw [hspec, hv]
    rfl
/-- An argument reads, below the heap's size. -/
theorem rdgOf {W : World} {ts : List TypeId} {vs : List Value} {ds : List (DataW H)} {p : List MemPlace} (h : DataW.TrodAll enc Tryz.prog W 0 (fun _ => true) true ts vs ds p) (hl : ∀ x ∈ p, x.block < W.heap.size)
    (hw : (DataW.weightsEach Tryz.prog ts ds).all (· ≤ reachBytes) = true) {j : Nat} {t : TypeId} {v : Value} (ht : ts[j]? = some t) (hv : vs[j]? = some v) : Rdg enc W W.heap.size t v.cells.toList := by
  induction ts generalizing vs ds p j with
  | nil => cases ht
  | cons t0 ts ih =>
    obtain ⟨v0, vs', d, ds', q, r, rfl, rfl, rfl, h1, h2⟩ := trodAll_cons h
    cases j with
    | zero =>
      cases ht
      cases hv
      obtain ⟨fuel, hf⟩ := h1
      refine ⟨fuel, _, hf, fun x hx => hl x (List.mem_append.2 (.inl hx)), fun n hn => ?_⟩
      have := List.all_eq_true.1 hw n (DataW.weights_mem_each (j := 0) (t := t) rfl rfl n hn)
      simpa using this
    | succ j =>
      refine ih h2 (fun x hx => hl x (List.mem_append.2 (.inr hx))) ?_ ht hv
      rw [List.all_eq_true] at hw ⊢
      intro n hn
      refine hw n ?_
      unfold DataW.weightsEach
      exact List.mem_append.2 (.inr hn)
end

/-- The cells of a table, laid. -/
def setTab (cs : Array Value) : Obj → Obj
  | .cells _ t frozen => .cells cs t frozen
  | o => o
/-- A world for the witnesses: the settled one, the tables as their initialisers lay them. -/
noncomputable def laidWorld (os : Os) : World :=
  { World.holding Tryz.prog os ⟨#[], #[], []⟩ with heap := (((World.holding Tryz.prog os ⟨#[], #[], []⟩).heap.modify 6 (setTab #[.int .u8 0, .int .u8 1, .int .u8 28, .int .u8 2, .int .u8 29, .int .u8 14, .int .u8 24, .int .u8 3, .int .u8 30, .int .u8 22, .int .u8 20, .int .u8 15, .int .u8 25, .int .u8 17, .int .u8 4, .int .u8 8, .int .u8 31, .int .u8 27, .int .u8 13, .int .u8 23, .int .u8 21, .int .u8 19, .int .u8 16, .int .u8 7, .int .u8 26, .int .u8 12, .int .u8 18, .int .u8 6, .int .u8 11, .int .u8 5, .int .u8 10, .int .u8 9])).modify 7 (setTab #[.int .u8 0, .int .u8 1, .int .u8 56, .int .u8 2, .int .u8 57, .int .u8 49, .int .u8 28, .int .u8 3, .int .u8 61, .int .u8 58, .int .u8 42, .int .u8 50, .int .u8 38, .int .u8 29, .int .u8 17, .int .u8 4, .int .u8 62, .int .u8 47, .int .u8 59, .int .u8 36, .int .u8 45, .int .u8 43, .int .u8 51, .int .u8 22, .int .u8 53, .int .u8 39, .int .u8 33, .int .u8 30, .int .u8 24, .int .u8 18, .int .u8 12, .int .u8 5, .int .u8 63, .int .u8 55, .int .u8 48, .int .u8 27, .int .u8 60, .int .u8 41, .int .u8 37, .int .u8 16, .int .u8 46, .int .u8 35, .int .u8 44, .int .u8 21, .int .u8 52, .int .u8 32, .int .u8 23, .int .u8 11, .int .u8 54, .int .u8 26, .int .u8 40, .int .u8 15, .int .u8 34, .int .u8 20, .int .u8 31, .int .u8 10, .int .u8 25, .int .u8 14, .int .u8 19, .int .u8 9, .int .u8 13, .int .u8 8, .int .u8 7, .int .u8 6])).modify 5 (setTab #[.int .u64 1, .int .u64 10, .int .u64 100, .int .u64 1000, .int .u64 10000, .int .u64 100000, .int .u64 1000000, .int .u64 10000000, .int .u64 100000000, .int .u64 1000000000, .int .u64 10000000000, .int .u64 100000000000, .int .u64 1000000000000, .int .u64 10000000000000, .int .u64 100000000000000, .int .u64 1000000000000000, .int .u64 10000000000000000, .int .u64 100000000000000000, .int .u64 1000000000000000000, .int .u64 10000000000000000000]) }
theorem laid_met (os : Os) (args : Array Value) : laidMet Tryz.prog tabs ((laidWorld os).forCall (fun _ _ => 0) ⟨#[], args, []⟩).memory :=
  laidMet_of_run' 8 (by kernel_rfl) (by kernel_rfl)
end Go.Proofs.YtohfofecbdfkgaaGreatDoor

/-
  How an argument that is a list of notices reads.
-/
namespace Go.Proofs.YtohfofecbdfkgaaGreatDoor
open Go.RowKit Al

theorem bNtc : Tryz.prog.bytesOf 54 = 120 := by kernel_rfl
section
variable {H : Type} {enc : TypeId × Value → H} {w : World} {B : Nat} {cs : List Value}
theorem ntcs_open (h : Rdg enc w B 25 cs) : ∃ (A : Option Addr) (c : Nat) (L : List It), cs = [.slice A L.length c] ∧ Sl w B 10 A L.length c (itCells L) ∧ L.length * 120 ≤ 140737488355328 ∧ ∀ x ∈ L, NtB w B x := by
  obtain ⟨A, c, ys, h1, h2, h3, h4⟩ := h.rows Tryz.underlying25 cNotice (by decide) It.lst (NtB w B) (fun cs' hc => ntc_open hc)
  rw [bNtc] at h3
  exact ⟨A, c, ys, h1, h2, Nat.le_trans h3 reach47, h4⟩
end
theorem NtB.nin {w : World} {x : It} (h : NtB w w.heap.size x) : NIn w x.n x.A x.c x.S x.sc := ⟨⟨h.ev, h.cells⟩, h.sigs⟩
end Go.Proofs.YtohfofecbdfkgaaGreatDoor
