/-
  How the laws' arguments read.
-/
import Derived.Test.YtohfofecbdfkgaaDoorRg
import Derived.Test.YtohfofecbdfkgaaDoorBo
namespace Go.Proofs.YtohfofecbdfkgaaDoor
open Go.RowKit Al

theorem cInt : Tryd.prog.cellsOf 3 = 1 := by kernel_rfl
theorem cStr : Tryd.prog.cellsOf 9 = 1 := by kernel_rfl
theorem cBool : Tryd.prog.cellsOf 4 = 1 := by kernel_rfl
theorem cChance : Tryd.prog.cellsOf 26 = 2 := by kernel_rfl
theorem cInts : Tryd.prog.cellsOf 27 = 1 := by kernel_rfl
theorem cAlert : Tryd.prog.cellsOf 29 = 9 := by kernel_rfl
theorem cKey : Tryd.prog.cellsOf 54 = 2 := by kernel_rfl
theorem cKeys : Tryd.prog.cellsOf 22 = 1 := by kernel_rfl
theorem cSig : Tryd.prog.cellsOf 115 = 2 := by kernel_rfl
theorem cSigs : Tryd.prog.cellsOf 30 = 1 := by kernel_rfl
theorem cRoll : Tryd.prog.cellsOf 24 = 2 := by kernel_rfl
theorem cNotice : Tryd.prog.cellsOf 32 = 10 := by kernel_rfl
theorem bInt : Tryd.prog.bytesOf 3 = 8 := by kernel_rfl
theorem bKey : Tryd.prog.bytesOf 54 = 16 := by kernel_rfl
theorem bSig : Tryd.prog.bytesOf 115 = 16 := by kernel_rfl
theorem list2 {l : List Value} (h : l.length = 2) : ∃ a b, l = [a, b] := by
  match l, h with
  | [a, b], _ => exact ⟨a, b, rfl⟩
theorem list9 {l : List Value} (h : l.length = 9) : ∃ c0 c1 c2 c3 c4 c5 c6 c7 c8, l = [c0, c1, c2, c3, c4, c5, c6, c7, c8] := by
  match l, h with
  | [c0, c1, c2, c3, c4, c5, c6, c7, c8], _ => exact ⟨_, _, _, _, _, _, _, _, _, rfl⟩
theorem list10 {l : List Value} (h : l.length = 10) : ∃ c0 c1 c2 c3 c4 c5 c6 c7 c8 c9, l = [c0, c1, c2, c3, c4, c5, c6, c7, c8, c9] := by
  match l, h with
  | [c0, c1, c2, c3, c4, c5, c6, c7, c8, c9], _ => exact ⟨_, _, _, _, _, _, _, _, _, _, rfl⟩
theorem reach47 : reachBytes ≤ 140737488355328 := by decide

section
variable {H : Type} {enc : TypeId × Value → H} {w : World} {B : Nat} {cs : List Value}
theorem ints_open (h : Rdg enc w B 27 cs) : ∃ (A : Option Addr) (c : Nat) (l : List Int), cs = [.slice A l.length c] ∧ Sl w B 1 A l.length c (ints l) ∧ l.length * 8 ≤ 140737488355328 ∧ ∀ n ∈ l, (Lit.int .i64 n).wf = true := by
  obtain ⟨A, c, ys, h1, h2, h3, h4⟩ := h.rows Tryd.underlying27 cInt (by decide) (fun n : Int => [.int .i64 n]) (fun n => (Lit.int .i64 n).wf = true) (fun cs' hc => by
    obtain ⟨n, hn, hw⟩ := hc.int Tryd.underlying3
    exact ⟨n, hn, hw⟩)
  rw [bInt] at h3
  refine ⟨A, c, ys, h1, ?_, Nat.le_trans h3 reach47, h4⟩
  have e : ys.flatMap (fun n : Int => [Value.int .i64 n]) = ints ys := by
    clear h1 h2 h3 h4
    induction ys with
    | nil => rfl
    | cons y r ih => rw [List.flatMap_cons, ih]; rfl
  rw [e] at h2
  exact h2
theorem pair_open {t : TypeId} {n1 n2 : String} {f1 f2 : Field} (hu : Tryd.prog.underlying t = some (.struct #[f1, f2])) (h1 : f1.type = 3 ∧ f1.offset = 0) (h2 : f2.type = 3 ∧ f2.offset = 1) (hc : Tryd.prog.cellsOf t = 2) (h : Rdg enc w B t cs) :
    ∃ k : Int × Int, cs = [.int .i64 k.1, .int .i64 k.2] ∧ (Lit.int .i64 k.1).wf = true ∧ (Lit.int .i64 k.2).wf = true := by
  obtain ⟨hl, hf⟩ := h.struct hu
  rw [hc] at hl
  obtain ⟨a, b, rfl⟩ := list2 hl
  have ha := hf 0 f1 rfl
  have hb := hf 1 f2 rfl
  rw [h1.1, h1.2, cInt] at ha
  rw [h2.1, h2.2, cInt] at hb
  obtain ⟨x, hx, wx⟩ := ha.int Tryd.underlying3
  obtain ⟨y, hy, wy⟩ := hb.int Tryd.underlying3
  simp at hx hy
  exact ⟨(x, y), by rw [hx, hy], wx, wy⟩
theorem key_open (h : Rdg enc w B 54 cs) : ∃ k : Int × Int, cs = [.int .i64 k.1, .int .i64 k.2] ∧ (Lit.int .i64 k.1).wf = true ∧ (Lit.int .i64 k.2).wf = true :=
  pair_open (n1 := "") (n2 := "") Tryd.underlying54 ⟨rfl, rfl⟩ ⟨rfl, rfl⟩ cKey h
theorem sig_open (h : Rdg enc w B 115 cs) : ∃ k : Int × Int, cs = [.int .i64 k.1, .int .i64 k.2] ∧ (Lit.int .i64 k.1).wf = true ∧ (Lit.int .i64 k.2).wf = true :=
  pair_open (n1 := "") (n2 := "") Tryd.underlying115 ⟨rfl, rfl⟩ ⟨rfl, rfl⟩ cSig h
theorem keys_open (h : Rdg enc w B 22 cs) : ∃ (A : Option Addr) (c : Nat) (l : List (Int × Int)), cs = [.slice A l.length c] ∧ Sl w B 2 A l.length c (keyCells l) := by
  obtain ⟨A, c, ys, h1, h2, _, _⟩ := h.rows Tryd.underlying22 cKey (by decide) (fun k : Int × Int => [.int .i64 k.1, .int .i64 k.2]) (fun _ => True) (fun cs' hc => by
    obtain ⟨n, hn, _⟩ := key_open hc
    exact ⟨n, hn, trivial⟩)
  exact ⟨A, c, ys, h1, h2⟩
theorem sigs_open (h : Rdg enc w B 30 cs) : ∃ (A : Option Addr) (c : Nat) (l : List (Int × Int)), cs = [.slice A l.length c] ∧ Sl w B 2 A l.length c (keyCells l) ∧ l.length * 16 ≤ 140737488355328 := by
  obtain ⟨A, c, ys, h1, h2, h3, _⟩ := h.rows Tryd.underlying30 cSig (by decide) (fun k : Int × Int => [.int .i64 k.1, .int .i64 k.2]) (fun _ => True) (fun cs' hc => by
    obtain ⟨n, hn, _⟩ := sig_open hc
    exact ⟨n, hn, trivial⟩)
  rw [bSig] at h3
  exact ⟨A, c, ys, h1, h2, Nat.le_trans h3 reach47⟩
theorem roll_open (h : Rdg enc w B 24 cs) : ∃ (A : Option Addr) (c : Nat) (l : List (Int × Int)) (q : Int), cs = [.slice A l.length c, .int .i64 q] ∧ Sl w B 2 A l.length c (keyCells l) := by
  obtain ⟨hl, hf⟩ := h.struct Tryd.underlying24
  rw [cRoll] at hl
  obtain ⟨a, b, rfl⟩ := list2 hl
  have ha : Rdg enc w B 22 ((([a, b] : List Value).drop 0).take (Tryd.prog.cellsOf 22)) := hf 0 _ rfl
  have hb : Rdg enc w B 3 ((([a, b] : List Value).drop 1).take (Tryd.prog.cellsOf 3)) := hf 1 _ rfl
  rw [cKeys] at ha
  rw [cInt] at hb
  obtain ⟨A, c, l, hx, hs⟩ := keys_open ha
  obtain ⟨q, hq, _⟩ := hb.int Tryd.underlying3
  simp at hx hq
  exact ⟨A, c, l, q, by rw [hx, hq], hs⟩
/-- The numbers of an alert are numbers of 64 bits. -/
structure AWf (a : Alr) : Prop where
  ver : (Lit.int .i64 a.ver).wf = true
  tm : (Lit.int .i64 a.tm).wf = true
  n : (Lit.int .i64 a.n).wf = true
  of : (Lit.int .i64 a.of).wf = true
  grid : (Lit.int .i64 a.grid).wf = true
  before : (Lit.int .i64 a.before).wf = true
theorem alr_open (h : Rdg enc w B 29 cs) : ∃ (a : Alr) (A : Option Addr) (c : Nat), cs = a.lst A c ∧ a.ev.size ≤ maxLen ∧ Sl w B 1 A a.cells.length c (ints a.cells) ∧ a.cells.length * 8 ≤ 140737488355328 ∧ AWf a := by
  obtain ⟨hl, hf⟩ := h.struct Tryd.underlying29
  rw [cAlert] at hl
  obtain ⟨c0, c1, c2, c3, c4, c5, c6, c7, c8, rfl⟩ := list9 hl
  have h0 : Rdg enc w B 9 ((([c0, c1, c2, c3, c4, c5, c6, c7, c8] : List Value).drop 0).take (Tryd.prog.cellsOf 9)) := hf 0 _ rfl
  rw [cStr] at h0
  have h1 : Rdg enc w B 3 ((([c0, c1, c2, c3, c4, c5, c6, c7, c8] : List Value).drop 1).take (Tryd.prog.cellsOf 3)) := hf 1 _ rfl
  rw [cInt] at h1
  have h2 : Rdg enc w B 3 ((([c0, c1, c2, c3, c4, c5, c6, c7, c8] : List Value).drop 2).take (Tryd.prog.cellsOf 3)) := hf 2 _ rfl
  rw [cInt] at h2
  have h3 : Rdg enc w B 26 ((([c0, c1, c2, c3, c4, c5, c6, c7, c8] : List Value).drop 3).take (Tryd.prog.cellsOf 26)) := hf 3 _ rfl
  rw [cChance] at h3
  have h5 : Rdg enc w B 3 ((([c0, c1, c2, c3, c4, c5, c6, c7, c8] : List Value).drop 5).take (Tryd.prog.cellsOf 3)) := hf 4 _ rfl
  rw [cInt] at h5
  have h6 : Rdg enc w B 27 ((([c0, c1, c2, c3, c4, c5, c6, c7, c8] : List Value).drop 6).take (Tryd.prog.cellsOf 27)) := hf 5 _ rfl
  rw [cInts] at h6
  have h7 : Rdg enc w B 4 ((([c0, c1, c2, c3, c4, c5, c6, c7, c8] : List Value).drop 7).take (Tryd.prog.cellsOf 4)) := hf 6 _ rfl
  rw [cBool] at h7
  have h8 : Rdg enc w B 3 ((([c0, c1, c2, c3, c4, c5, c6, c7, c8] : List Value).drop 8).take (Tryd.prog.cellsOf 3)) := hf 7 _ rfl
  rw [cInt] at h8
  obtain ⟨ev, e0, hev⟩ := h0.string Tryd.underlying9
  obtain ⟨ver, e1, w1⟩ := h1.int Tryd.underlying3
  obtain ⟨tm, e2, w2⟩ := h2.int Tryd.underlying3
  obtain ⟨k, e3, w3, w4⟩ := pair_open (n1 := "") (n2 := "") Tryd.underlying26 ⟨rfl, rfl⟩ ⟨rfl, rfl⟩ cChance h3
  obtain ⟨g, e5, w5⟩ := h5.int Tryd.underlying3
  obtain ⟨A, c, l, e6, hs, hb, _⟩ := ints_open h6
  obtain ⟨wd, e7⟩ := h7.bool Tryd.underlying4
  obtain ⟨bf, e8, w8⟩ := h8.int Tryd.underlying3
  simp at e0 e1 e2 e3 e5 e6 e7 e8
  exact ⟨⟨ev, ver, tm, k.1, k.2, g, l, wd, bf⟩, A, c, by rw [e0, e1, e2, e3.1, e3.2, e5, e6, e7, e8], hev, hs, hb, ⟨w1, w2, w3, w4, w5, w8⟩⟩
/-- A notice lies below B. -/
structure NtB (w : World) (B : Nat) (x : It) : Prop where
  ev : x.n.a.ev.size ≤ maxLen
  cells : Sl w B 1 x.A x.n.a.cells.length x.c (ints x.n.a.cells)
  sigs : Sl w B 2 x.S x.n.sg.length x.sc (keyCells x.n.sg)
  few : x.n.a.cells.length * 8 ≤ 140737488355328
  few2 : x.n.sg.length * 16 ≤ 140737488355328
  wf : AWf x.n.a
theorem ntc_open (h : Rdg enc w B 32 cs) : ∃ x : It, cs = x.lst ∧ NtB w B x := by
  obtain ⟨hl, hf⟩ := h.struct Tryd.underlying32
  rw [cNotice] at hl
  obtain ⟨c0, c1, c2, c3, c4, c5, c6, c7, c8, c9, rfl⟩ := list10 hl
  have h0 : Rdg enc w B 29 ((([c0, c1, c2, c3, c4, c5, c6, c7, c8, c9] : List Value).drop 0).take (Tryd.prog.cellsOf 29)) := hf 0 _ rfl
  have h1 : Rdg enc w B 30 ((([c0, c1, c2, c3, c4, c5, c6, c7, c8, c9] : List Value).drop 9).take (Tryd.prog.cellsOf 30)) := hf 1 _ rfl
  rw [cAlert] at h0
  rw [cSigs] at h1
  obtain ⟨a, A, c, e0, hev, hs, hb, hw⟩ := alr_open h0
  obtain ⟨S, sc, sg, e1, hs2, hb2⟩ := sigs_open h1
  simp at e0 e1
  obtain ⟨e0, e2, e3, e4, e5, e6, e7, e8, e9⟩ := e0
  exact ⟨⟨⟨a, sg⟩, A, c, S, sc⟩, by rw [e0, e2, e3, e4, e5, e6, e7, e8, e9, e1]; rfl, hev, hs, hs2, hb, hb2, hw⟩
end
end Go.Proofs.YtohfofecbdfkgaaDoor
