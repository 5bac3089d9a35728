/-
  How the argument of AlertNight reads.
-/
import Derived.Test.YtmpbhngjkbidcaaGreatDoorW30
import Derived.Test.YtmpbhngjkbidcaaGreatDoorW02
import Derived.Test.YtmpbhngjkbidcaaGreatDoorW05
namespace Go.Proofs.YtmpbhngjkbidcaaGreatDoor
open Go.RowKit Al

theorem cTrig : Tryz.prog.cellsOf 47 = 3 := by kernel_rfl
theorem cTrigs : Tryz.prog.cellsOf 22 = 1 := by kernel_rfl
theorem cSite : Tryz.prog.cellsOf 158 = 10 := by kernel_rfl
theorem cSites : Tryz.prog.cellsOf 23 = 1 := by kernel_rfl
theorem cV3 : Tryz.prog.cellsOf 109 = 3 := by kernel_rfl
theorem cNight : Tryz.prog.cellsOf 25 = 9 := by kernel_rfl
theorem list3 {l : List Value} (h : l.length = 3) : ∃ a b c, l = [a, b, c] := by
  match l, h with
  | [a, b, c], _ => exact ⟨a, b, c, rfl⟩
section
variable {H : Type} {enc : TypeId × Value → H} {w : World} {B : Nat} {cs : List Value}
theorem trig_open (h : Rdg enc w B 47 cs) : ∃ k : Trg, cs = [.int .i64 k.1, .int .i64 k.2.1, .int .i64 k.2.2] := by
  obtain ⟨hl, hf⟩ := h.struct Tryz.underlying47
  rw [cTrig] at hl
  obtain ⟨a, b, c, rfl⟩ := list3 hl
  have ha : Rdg enc w B 3 ((([a, b, c] : List Value).drop 0).take (Tryz.prog.cellsOf 3)) := hf 0 _ rfl
  have hb : Rdg enc w B 3 ((([a, b, c] : List Value).drop 1).take (Tryz.prog.cellsOf 3)) := hf 1 _ rfl
  have hc : Rdg enc w B 3 ((([a, b, c] : List Value).drop 2).take (Tryz.prog.cellsOf 3)) := hf 2 _ rfl
  rw [cInt] at ha hb hc
  obtain ⟨x, hx, _⟩ := ha.int Tryz.underlying3
  obtain ⟨y, hy, _⟩ := hb.int Tryz.underlying3
  obtain ⟨z, hz, _⟩ := hc.int Tryz.underlying3
  simp at hx hy hz
  exact ⟨(x, y, z), by rw [hx, hy, hz]⟩
theorem trigs_open (h : Rdg enc w B 22 cs) : ∃ (A : Option Addr) (c : Nat) (l : List Trg), cs = [.slice A l.length c] ∧ Sl w B 3 A l.length c (trCells l) := by
  obtain ⟨A, c, ys, h1, h2, _, _⟩ := h.rows Tryz.underlying22 cTrig (by decide) (fun k : Trg => [.int .i64 k.1, .int .i64 k.2.1, .int .i64 k.2.2]) (fun _ => True) (fun cs' hc => by
    obtain ⟨n, hn⟩ := trig_open hc
    exact ⟨n, hn, trivial⟩)
  exact ⟨A, c, ys, h1, h2⟩
set_option maxRecDepth 100000 in
theorem v3_open (h : Rdg enc w B 109 cs) : ∃ k : V3, cs = [.int .i64 k.1, .int .i64 k.2.1, .int .i64 k.2.2] := by
  obtain ⟨hl, hf⟩ := h.array Tryz.underlying109
  rw [cV3] at hl
  obtain ⟨a, b, c, rfl⟩ := list3 hl
  have ha := hf 0 (by omega)
  have hb := hf 1 (by omega)
  have hc := hf 2 (by omega)
  rw [cInt] at ha hb hc
  obtain ⟨x, hx, _⟩ := ha.int Tryz.underlying3
  obtain ⟨y, hy, _⟩ := hb.int Tryz.underlying3
  obtain ⟨z, hz, _⟩ := hc.int Tryz.underlying3
  simp at hx hy hz
  exact ⟨(x, y, z), by rw [hx, hy, hz]⟩
set_option maxRecDepth 100000 in
theorem site_open (h : Rdg enc w B 158 cs) : ∃ x : NSi, cs = nsCell x ∧ x.nm.size ≤ maxLen := by
  obtain ⟨hl, hf⟩ := h.struct Tryz.underlying158
  rw [cSite] at hl
  obtain ⟨c0, c1, c2, c3, c4, c5, c6, c7, c8, c9, rfl⟩ := list10 hl
  have h0 : Rdg enc w B 9 ((([c0, c1, c2, c3, c4, c5, c6, c7, c8, c9] : List Value).drop 0).take (Tryz.prog.cellsOf 9)) := hf 0 _ rfl
  rw [cStr] at h0
  have h1 : Rdg enc w B 109 ((([c0, c1, c2, c3, c4, c5, c6, c7, c8, c9] : List Value).drop 1).take (Tryz.prog.cellsOf 109)) := hf 1 _ rfl
  have h2 : Rdg enc w B 109 ((([c0, c1, c2, c3, c4, c5, c6, c7, c8, c9] : List Value).drop 4).take (Tryz.prog.cellsOf 109)) := hf 2 _ rfl
  have h3 : Rdg enc w B 109 ((([c0, c1, c2, c3, c4, c5, c6, c7, c8, c9] : List Value).drop 7).take (Tryz.prog.cellsOf 109)) := hf 3 _ rfl
  rw [cV3] at h1 h2 h3
  obtain ⟨nm, e0, hnm⟩ := h0.string Tryz.underlying9
  obtain ⟨p, e1⟩ := v3_open h1
  obtain ⟨u, e2⟩ := v3_open h2
  obtain ⟨v, e3⟩ := v3_open h3
  simp at e0 e1 e2 e3
  refine ⟨⟨nm, p, u, v⟩, ?_, hnm⟩
  rw [e0, e1.1, e1.2.1, e1.2.2, e2.1, e2.2.1, e2.2.2, e3.1, e3.2.1, e3.2.2]
  rfl
theorem sites_open (h : Rdg enc w B 23 cs) : ∃ (A : Option Addr) (c : Nat) (l : List NSi), cs = [.slice A l.length c] ∧ Sl w B 10 A l.length c (nsCells l) ∧ ∀ x ∈ l, x.nm.size ≤ maxLen := by
  obtain ⟨A, c, ys, h1, h2, _, h4⟩ := h.rows Tryz.underlying23 cSite (by decide) nsCell (fun x => x.nm.size ≤ maxLen) (fun cs' hc => site_open hc)
  exact ⟨A, c, ys, h1, h2, h4⟩
set_option maxRecDepth 100000 in
theorem night_open (h : Rdg enc w B 25 cs) : ∃ (a b : List Trg) (A C : Option Addr) (ca cb : Nat) (live window step limit g slack : Int) (L : List NSi) (N : Option Addr) (nc : Nat),
    cs = [.slice A a.length ca, .slice C b.length cb, .int .i64 live, .int .i64 window, .int .i64 step, .int .i64 limit, .slice N L.length nc, .int .i64 g, .int .i64 slack] ∧ Sl w B 3 A a.length ca (trCells a) ∧ Sl w B 3 C b.length cb (trCells b) ∧ Sl w B 10 N L.length nc (nsCells L) ∧ ∀ x ∈ L, x.nm.size ≤ maxLen := by
  obtain ⟨hl, hf⟩ := h.struct Tryz.underlying25
  rw [cNight] at hl
  obtain ⟨c0, c1, c2, c3, c4, c5, c6, c7, c8, rfl⟩ := list9 hl
  have h0 : Rdg enc w B 22 ((([c0, c1, c2, c3, c4, c5, c6, c7, c8] : List Value).drop 0).take (Tryz.prog.cellsOf 22)) := hf 0 _ rfl
  have h1 : Rdg enc w B 22 ((([c0, c1, c2, c3, c4, c5, c6, c7, c8] : List Value).drop 1).take (Tryz.prog.cellsOf 22)) := hf 1 _ rfl
  have h2 : Rdg enc w B 3 ((([c0, c1, c2, c3, c4, c5, c6, c7, c8] : List Value).drop 2).take (Tryz.prog.cellsOf 3)) := hf 2 _ rfl
  have h3 : Rdg enc w B 3 ((([c0, c1, c2, c3, c4, c5, c6, c7, c8] : List Value).drop 3).take (Tryz.prog.cellsOf 3)) := hf 3 _ rfl
  have h4 : Rdg enc w B 3 ((([c0, c1, c2, c3, c4, c5, c6, c7, c8] : List Value).drop 4).take (Tryz.prog.cellsOf 3)) := hf 4 _ rfl
  have h5 : Rdg enc w B 3 ((([c0, c1, c2, c3, c4, c5, c6, c7, c8] : List Value).drop 5).take (Tryz.prog.cellsOf 3)) := hf 5 _ rfl
  have h6 : Rdg enc w B 23 ((([c0, c1, c2, c3, c4, c5, c6, c7, c8] : List Value).drop 6).take (Tryz.prog.cellsOf 23)) := hf 6 _ rfl
  have h7 : Rdg enc w B 3 ((([c0, c1, c2, c3, c4, c5, c6, c7, c8] : List Value).drop 7).take (Tryz.prog.cellsOf 3)) := hf 7 _ rfl
  have h8 : Rdg enc w B 3 ((([c0, c1, c2, c3, c4, c5, c6, c7, c8] : List Value).drop 8).take (Tryz.prog.cellsOf 3)) := hf 8 _ rfl
  rw [cTrigs] at h0 h1
  rw [cInt] at h2 h3 h4 h5 h7 h8
  rw [cSites] at h6
  obtain ⟨A, ca, a, e0, ha⟩ := trigs_open h0
  obtain ⟨C, cb, b, e1, hb⟩ := trigs_open h1
  obtain ⟨live, e2, _⟩ := h2.int Tryz.underlying3
  obtain ⟨window, e3, _⟩ := h3.int Tryz.underlying3
  obtain ⟨step, e4, _⟩ := h4.int Tryz.underlying3
  obtain ⟨limit, e5, _⟩ := h5.int Tryz.underlying3
  obtain ⟨N, nc, L, e6, hL, hm⟩ := sites_open h6
  obtain ⟨g, e7, _⟩ := h7.int Tryz.underlying3
  obtain ⟨slack, e8, _⟩ := h8.int Tryz.underlying3
  simp at e0 e1 e2 e3 e4 e5 e6 e7 e8
  exact ⟨a, b, A, C, ca, cb, live, window, step, limit, g, slack, L, N, nc, by rw [e0, e1, e2, e3, e4, e5, e6, e7, e8], ha, hb, hL, hm⟩
end
end Go.Proofs.YtmpbhngjkbidcaaGreatDoor

/-
  How the argument of TopPublished reads.
-/
namespace Go.Proofs.YtmpbhngjkbidcaaGreatDoor
open Go.RowKit Al

theorem cArrv : Tryz.prog.cellsOf 49 = 3 := by kernel_rfl
theorem cArrvs : Tryz.prog.cellsOf 50 = 1 := by kernel_rfl
theorem cFound : Tryz.prog.cellsOf 66 = 9 := by kernel_rfl
section
variable {H : Type} {enc : TypeId × Value → H} {w : World} {B : Nat} {cs : List Value}
theorem arrv_open (h : Rdg enc w B 49 cs) : ∃ k : Trg, cs = [.int .i64 k.1, .int .i64 k.2.1, .int .i64 k.2.2] := by
  obtain ⟨hl, hf⟩ := h.struct Tryz.underlying49
  rw [cArrv] at hl
  obtain ⟨a, b, c, rfl⟩ := list3 hl
  have ha : Rdg enc w B 3 ((([a, b, c] : List Value).drop 0).take (Tryz.prog.cellsOf 3)) := hf 0 _ rfl
  have hb : Rdg enc w B 3 ((([a, b, c] : List Value).drop 1).take (Tryz.prog.cellsOf 3)) := hf 1 _ rfl
  have hc : Rdg enc w B 3 ((([a, b, c] : List Value).drop 2).take (Tryz.prog.cellsOf 3)) := hf 2 _ rfl
  rw [cInt] at ha hb hc
  obtain ⟨x, hx, _⟩ := ha.int Tryz.underlying3
  obtain ⟨y, hy, _⟩ := hb.int Tryz.underlying3
  obtain ⟨z, hz, _⟩ := hc.int Tryz.underlying3
  simp at hx hy hz
  exact ⟨(x, y, z), by rw [hx, hy, hz]⟩
theorem arrvs_open (h : Rdg enc w B 50 cs) : ∃ (A : Option Addr) (c : Nat) (l : List Trg), cs = [.slice A l.length c] ∧ Sl w B 3 A l.length c (trCells l) := by
  obtain ⟨A, c, ys, h1, h2, _, _⟩ := h.rows Tryz.underlying50 cArrv (by decide) (fun k : Trg => [.int .i64 k.1, .int .i64 k.2.1, .int .i64 k.2.2]) (fun _ => True) (fun cs' hc => by
    obtain ⟨n, hn⟩ := arrv_open hc
    exact ⟨n, hn, trivial⟩)
  exact ⟨A, c, ys, h1, h2⟩
set_option maxRecDepth 100000 in
theorem found_open (h : Rdg enc w B 66 cs) : ∃ (a b : List Trg) (A C : Option Addr) (ca cb : Nat) (live window step g limit : Int) (L : List NSi) (N : Option Addr) (nc : Nat) (t : List Trg) (R : Option Addr) (rc : Nat),
    cs = [.slice A a.length ca, .slice C b.length cb, .int .i64 live, .int .i64 window, .int .i64 step, .slice N L.length nc, .int .i64 g, .slice R t.length rc, .int .i64 limit] ∧ Sl w B 3 A a.length ca (trCells a) ∧ Sl w B 3 C b.length cb (trCells b) ∧ Sl w B 10 N L.length nc (nsCells L) ∧ (∀ x ∈ L, x.nm.size ≤ maxLen) ∧ Sl w B 3 R t.length rc (trCells t) := by
  obtain ⟨hl, hf⟩ := h.struct Tryz.underlying66
  rw [cFound] at hl
  obtain ⟨c0, c1, c2, c3, c4, c5, c6, c7, c8, rfl⟩ := list9 hl
  have h0 : Rdg enc w B 22 ((([c0, c1, c2, c3, c4, c5, c6, c7, c8] : List Value).drop 0).take (Tryz.prog.cellsOf 22)) := hf 0 _ rfl
  have h1 : Rdg enc w B 22 ((([c0, c1, c2, c3, c4, c5, c6, c7, c8] : List Value).drop 1).take (Tryz.prog.cellsOf 22)) := hf 1 _ rfl
  have h2 : Rdg enc w B 3 ((([c0, c1, c2, c3, c4, c5, c6, c7, c8] : List Value).drop 2).take (Tryz.prog.cellsOf 3)) := hf 2 _ rfl
  have h3 : Rdg enc w B 3 ((([c0, c1, c2, c3, c4, c5, c6, c7, c8] : List Value).drop 3).take (Tryz.prog.cellsOf 3)) := hf 3 _ rfl
  have h4 : Rdg enc w B 3 ((([c0, c1, c2, c3, c4, c5, c6, c7, c8] : List Value).drop 4).take (Tryz.prog.cellsOf 3)) := hf 4 _ rfl
  have h5 : Rdg enc w B 23 ((([c0, c1, c2, c3, c4, c5, c6, c7, c8] : List Value).drop 5).take (Tryz.prog.cellsOf 23)) := hf 5 _ rfl
  have h6 : Rdg enc w B 3 ((([c0, c1, c2, c3, c4, c5, c6, c7, c8] : List Value).drop 6).take (Tryz.prog.cellsOf 3)) := hf 6 _ rfl
  have h7 : Rdg enc w B 50 ((([c0, c1, c2, c3, c4, c5, c6, c7, c8] : List Value).drop 7).take (Tryz.prog.cellsOf 50)) := hf 7 _ rfl
  have h8 : Rdg enc w B 3 ((([c0, c1, c2, c3, c4, c5, c6, c7, c8] : List Value).drop 8).take (Tryz.prog.cellsOf 3)) := hf 8 _ rfl
  rw [cTrigs] at h0 h1
  rw [cInt] at h2 h3 h4 h6 h8
  rw [cSites] at h5
  rw [cArrvs] at h7
  obtain ⟨A, ca, a, e0, ha⟩ := trigs_open h0
  obtain ⟨C, cb, b, e1, hb⟩ := trigs_open h1
  obtain ⟨live, e2, _⟩ := h2.int Tryz.underlying3
  obtain ⟨window, e3, _⟩ := h3.int Tryz.underlying3
  obtain ⟨step, e4, _⟩ := h4.int Tryz.underlying3
  obtain ⟨N, nc, L, e5, hL, hm⟩ := sites_open h5
  obtain ⟨g, e6, _⟩ := h6.int Tryz.underlying3
  obtain ⟨R, rc, t, e7, ht⟩ := arrvs_open h7
  obtain ⟨limit, e8, _⟩ := h8.int Tryz.underlying3
  simp at e0 e1 e2 e3 e4 e5 e6 e7 e8
  exact ⟨a, b, A, C, ca, cb, live, window, step, g, limit, L, N, nc, t, R, rc, by rw [e0, e1, e2, e3, e4, e5, e6, e7, e8], ha, hb, hL, hm, ht⟩
end
end Go.Proofs.YtmpbhngjkbidcaaGreatDoor
