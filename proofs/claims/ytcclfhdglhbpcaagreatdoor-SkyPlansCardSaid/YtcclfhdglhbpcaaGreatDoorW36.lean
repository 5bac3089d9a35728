/-
  How the arguments of the sky's laws open: networks, shouts, arrivals, maps, telescopes, looks.
-/
import Derived.Test.YtcclfhdglhbpcaaGreatDoorW31
import Derived.Test.YtcclfhdglhbpcaaGreatDoorW10
import Derived.Test.YtcclfhdglhbpcaaGreatDoorW13
import Derived.Test.YtcclfhdglhbpcaaGreatDoorW18
namespace Go.Proofs.YtcclfhdglhbpcaaGreatDoor
open Go.RowKit Al

theorem listT4 {l : List Value} (h : l.length = 4) : ∃ c0 c1 c2 c3, l = [c0, c1, c2, c3] := by
  match l, h with
  | [c0, c1, c2, c3], _ => exact ⟨c0, c1, c2, c3, rfl⟩
theorem listT6 {l : List Value} (h : l.length = 6) : ∃ c0 c1 c2 c3 c4 c5, l = [c0, c1, c2, c3, c4, c5] := by
  match l, h with
  | [c0, c1, c2, c3, c4, c5], _ => exact ⟨c0, c1, c2, c3, c4, c5, rfl⟩
theorem listT10 {l : List Value} (h : l.length = 10) : ∃ c0 c1 c2 c3 c4 c5 c6 c7 c8 c9, l = [c0, c1, c2, c3, c4, c5, c6, c7, c8, c9] := by
  match l, h with
  | [c0, c1, c2, c3, c4, c5, c6, c7, c8, c9], _ => exact ⟨c0, c1, c2, c3, c4, c5, c6, c7, c8, c9, rfl⟩
theorem cStrT : Tryz.prog.cellsOf 9 = 1 := by kernel_rfl
theorem cIntsT : Tryz.prog.cellsOf 27 = 1 := by kernel_rfl
theorem cSiteT : Tryz.prog.cellsOf 93 = 10 := by kernel_rfl
theorem cSitesT : Tryz.prog.cellsOf 22 = 1 := by kernel_rfl
theorem cNetT : Tryz.prog.cellsOf 24 = 3 := by kernel_rfl
theorem cShoutT : Tryz.prog.cellsOf 36 = 6 := by kernel_rfl
theorem cArvT : Tryz.prog.cellsOf 41 = 3 := by kernel_rfl
theorem cMapT : Tryz.prog.cellsOf 57 = 3 := by kernel_rfl
theorem cLimT : Tryz.prog.cellsOf 116 = 2 := by kernel_rfl
theorem cScpT : Tryz.prog.cellsOf 119 = 6 := by kernel_rfl
theorem cZsT : Tryz.prog.cellsOf 117 = 1 := by kernel_rfl
theorem cLookT : Tryz.prog.cellsOf 66 = 3 := by kernel_rfl
theorem cQuadT : Tryz.prog.cellsOf 25 = 4 := by kernel_rfl
section
variable {H : Type} {enc : TypeId × Value → H} {w : World} {B : Nat} {cs : List Value}
theorem v3_openT (h : Rdg enc w B 43 cs) : ∃ k : V3, cs = [.int .i64 k.1, .int .i64 k.2.1, .int .i64 k.2.2] := by
  obtain ⟨a, b, c, e⟩ := arr_openS h
  exact ⟨(a, b, c), e⟩
theorem ints_openT (h : Rdg enc w B 27 cs) : ∃ (A : Option Addr) (c : Nat) (l : List Int), cs = [.slice A l.length c] ∧ Sl w B 1 A l.length c (ints l) := by
  obtain ⟨A, c, ys, h1, h2, h3, h4⟩ := h.rows Tryz.underlying27 cIntS (by decide) (fun n : Int => [.int .i64 n]) (fun _ => True) (fun cs' hc => by
    obtain ⟨n, hn, _⟩ := hc.int Tryz.underlying3
    exact ⟨n, hn, trivial⟩)
  refine ⟨A, c, ys, h1, ?_⟩
  have e : ys.flatMap (fun n : Int => [Value.int .i64 n]) = ints ys := by
    clear h1 h2 h3 h4
    induction ys with
    | nil => rfl
    | cons y r ih => rw [List.flatMap_cons, ih]; rfl
  rw [e] at h2
  exact h2
set_option maxRecDepth 100000 in
theorem site_openT (h : Rdg enc w B 93 cs) : ∃ x : NSi, cs = nsCell x ∧ x.nm.size ≤ maxLen := by
  obtain ⟨hl, hf⟩ := h.struct Tryz.underlying93
  rw [cSiteT] at hl
  obtain ⟨c0, c1, c2, c3, c4, c5, c6, c7, c8, c9, rfl⟩ := listT10 hl
  have h0 : Rdg enc w B 9 ((([c0, c1, c2, c3, c4, c5, c6, c7, c8, c9] : List Value).drop 0).take (Tryz.prog.cellsOf 9)) := hf 0 _ rfl
  have h1 : Rdg enc w B 43 ((([c0, c1, c2, c3, c4, c5, c6, c7, c8, c9] : List Value).drop 1).take (Tryz.prog.cellsOf 43)) := hf 1 _ rfl
  have h2 : Rdg enc w B 43 ((([c0, c1, c2, c3, c4, c5, c6, c7, c8, c9] : List Value).drop 4).take (Tryz.prog.cellsOf 43)) := hf 2 _ rfl
  have h3 : Rdg enc w B 43 ((([c0, c1, c2, c3, c4, c5, c6, c7, c8, c9] : List Value).drop 7).take (Tryz.prog.cellsOf 43)) := hf 3 _ rfl
  rw [cStrT] at h0
  obtain ⟨nm, e0, hnm⟩ := h0.string Tryz.underlying9
  rw [cArrS] at h1
  obtain ⟨p, e1⟩ := v3_openT h1
  rw [cArrS] at h2
  obtain ⟨u, e2⟩ := v3_openT h2
  rw [cArrS] at h3
  obtain ⟨v, e3⟩ := v3_openT h3
  simp at e0 e1 e2 e3
  refine ⟨⟨nm, p, u, v⟩, ?_, hnm⟩
  rw [e0, e1.1, e1.2.1, e1.2.2, e2.1, e2.2.1, e2.2.2, e3.1, e3.2.1, e3.2.2]
  rfl
theorem sites_openT (h : Rdg enc w B 22 cs) : ∃ (A : Option Addr) (c : Nat) (l : List NSi), cs = [.slice A l.length c] ∧ Sl w B 10 A l.length c (nsCells l) ∧ ∀ x ∈ l, x.nm.size ≤ maxLen := by
  obtain ⟨A, c, ys, h1, h2, _, h4⟩ := h.rows Tryz.underlying22 cSiteT (by decide) nsCell (fun x => x.nm.size ≤ maxLen) (fun cs' hc => site_openT hc)
  exact ⟨A, c, ys, h1, h2, h4⟩
set_option maxRecDepth 100000 in
theorem net_openT (h : Rdg enc w B 24 cs) : ∃ (A : Option Addr) (c : Nat) (L : List NSi) (n k : Int), cs = [.slice A L.length c, .int .i64 n, .int .i64 k] ∧ Sl w B 10 A L.length c (nsCells L) ∧ ∀ x ∈ L, x.nm.size ≤ maxLen := by
  obtain ⟨hl, hf⟩ := h.struct Tryz.underlying24
  rw [cNetT] at hl
  obtain ⟨c0, c1, c2, rfl⟩ := listS3 hl
  have h0 : Rdg enc w B 22 ((([c0, c1, c2] : List Value).drop 0).take (Tryz.prog.cellsOf 22)) := hf 0 _ rfl
  have h1 : Rdg enc w B 3 ((([c0, c1, c2] : List Value).drop 1).take (Tryz.prog.cellsOf 3)) := hf 1 _ rfl
  have h2 : Rdg enc w B 3 ((([c0, c1, c2] : List Value).drop 2).take (Tryz.prog.cellsOf 3)) := hf 2 _ rfl
  rw [cSitesT] at h0
  obtain ⟨A, c, L, e0, hL, hm⟩ := sites_openT h0
  rw [cIntS] at h1
  obtain ⟨n, e1, _⟩ := h1.int Tryz.underlying3
  rw [cIntS] at h2
  obtain ⟨k, e2, _⟩ := h2.int Tryz.underlying3
  simp at e0 e1 e2
  exact ⟨A, c, L, n, k, by rw [e0, e1, e2], hL, hm⟩
set_option maxRecDepth 100000 in
theorem shout_openT (h : Rdg enc w B 36 cs) : ∃ (A : Option Addr) (c : Nat) (L : List NSi) (n k t : Int) (EA : Option Addr) (ec : Nat) (er : List Int) (SA : Option Addr) (sc : Nat) (sl : List Int), cs = [.slice A L.length c, .int .i64 n, .int .i64 k, .int .i64 t, .slice EA er.length ec, .slice SA sl.length sc] ∧ Sl w B 10 A L.length c (nsCells L) ∧ (∀ x ∈ L, x.nm.size ≤ maxLen) ∧ Sl w B 1 EA er.length ec (ints er) ∧ Sl w B 1 SA sl.length sc (ints sl) := by
  obtain ⟨hl, hf⟩ := h.struct Tryz.underlying36
  rw [cShoutT] at hl
  obtain ⟨c0, c1, c2, c3, c4, c5, rfl⟩ := listT6 hl
  have h0 : Rdg enc w B 24 ((([c0, c1, c2, c3, c4, c5] : List Value).drop 0).take (Tryz.prog.cellsOf 24)) := hf 0 _ rfl
  have h1 : Rdg enc w B 3 ((([c0, c1, c2, c3, c4, c5] : List Value).drop 3).take (Tryz.prog.cellsOf 3)) := hf 1 _ rfl
  have h2 : Rdg enc w B 27 ((([c0, c1, c2, c3, c4, c5] : List Value).drop 4).take (Tryz.prog.cellsOf 27)) := hf 2 _ rfl
  have h3 : Rdg enc w B 27 ((([c0, c1, c2, c3, c4, c5] : List Value).drop 5).take (Tryz.prog.cellsOf 27)) := hf 3 _ rfl
  rw [cNetT] at h0
  obtain ⟨A, c, L, n, k, e0, hL, hm⟩ := net_openT h0
  rw [cIntS] at h1
  obtain ⟨t, e1, _⟩ := h1.int Tryz.underlying3
  rw [cIntsT] at h2
  obtain ⟨EA, ec, er, e2, hE⟩ := ints_openT h2
  rw [cIntsT] at h3
  obtain ⟨SA, sc, sl, e3, hS⟩ := ints_openT h3
  simp at e0 e1 e2 e3
  exact ⟨A, c, L, n, k, t, EA, ec, er, SA, sc, sl, by rw [e0.1, e0.2.1, e0.2.2, e1, e2, e3], hL, hm, hE, hS⟩
set_option maxRecDepth 100000 in
theorem arv_openT (h : Rdg enc w B 41 cs) : ∃ k : Trg, cs = [.int .i64 k.1, .int .i64 k.2.1, .int .i64 k.2.2] := by
  obtain ⟨hl, hf⟩ := h.struct Tryz.underlying41
  rw [cArvT] at hl
  obtain ⟨c0, c1, c2, rfl⟩ := listS3 hl
  have h0 : Rdg enc w B 3 ((([c0, c1, c2] : List Value).drop 0).take (Tryz.prog.cellsOf 3)) := hf 0 _ rfl
  have h1 : Rdg enc w B 3 ((([c0, c1, c2] : List Value).drop 1).take (Tryz.prog.cellsOf 3)) := hf 1 _ rfl
  have h2 : Rdg enc w B 3 ((([c0, c1, c2] : List Value).drop 2).take (Tryz.prog.cellsOf 3)) := hf 2 _ rfl
  rw [cIntS] at h0
  obtain ⟨x0, e0, _⟩ := h0.int Tryz.underlying3
  rw [cIntS] at h1
  obtain ⟨x1, e1, _⟩ := h1.int Tryz.underlying3
  rw [cIntS] at h2
  obtain ⟨x2, e2, _⟩ := h2.int Tryz.underlying3
  simp at e0 e1 e2
  exact ⟨(x0, x1, x2), by rw [e0, e1, e2]⟩
set_option maxRecDepth 100000 in
theorem look_openT (h : Rdg enc w B 66 cs) : ∃ k : V3, cs = [.int .i64 k.1, .int .i64 k.2.1, .int .i64 k.2.2] := by
  obtain ⟨hl, hf⟩ := h.struct Tryz.underlying66
  rw [cLookT] at hl
  obtain ⟨c0, c1, c2, rfl⟩ := listS3 hl
  have h0 : Rdg enc w B 3 ((([c0, c1, c2] : List Value).drop 0).take (Tryz.prog.cellsOf 3)) := hf 0 _ rfl
  have h1 : Rdg enc w B 3 ((([c0, c1, c2] : List Value).drop 1).take (Tryz.prog.cellsOf 3)) := hf 1 _ rfl
  have h2 : Rdg enc w B 3 ((([c0, c1, c2] : List Value).drop 2).take (Tryz.prog.cellsOf 3)) := hf 2 _ rfl
  rw [cIntS] at h0
  obtain ⟨x0, e0, _⟩ := h0.int Tryz.underlying3
  rw [cIntS] at h1
  obtain ⟨x1, e1, _⟩ := h1.int Tryz.underlying3
  rw [cIntS] at h2
  obtain ⟨x2, e2, _⟩ := h2.int Tryz.underlying3
  simp at e0 e1 e2
  exact ⟨(x0, x1, x2), by rw [e0, e1, e2]⟩
theorem arvs_openT (h : Rdg enc w B 26 cs) : ∃ (A : Option Addr) (c : Nat) (l : List Trg), cs = [.slice A l.length c] ∧ Sl w B 3 A l.length c (trCells l) := by
  obtain ⟨A, c, ys, h1, h2, _, _⟩ := h.rows Tryz.underlying26 cArvT (by decide) (fun k : Trg => [.int .i64 k.1, .int .i64 k.2.1, .int .i64 k.2.2]) (fun _ => True) (fun cs' hc => by
    obtain ⟨n, hn⟩ := arv_openT hc
    exact ⟨n, hn, trivial⟩)
  exact ⟨A, c, ys, h1, h2⟩
theorem looks_openT (h : Rdg enc w B 58 cs) : ∃ (A : Option Addr) (c : Nat) (l : List V3), cs = [.slice A l.length c] ∧ Sl w B 3 A l.length c (zsC l) := by
  obtain ⟨A, c, ys, h1, h2, _, _⟩ := h.rows Tryz.underlying58 cLookT (by decide) v3C (fun _ => True) (fun cs' hc => by
    obtain ⟨n, hn⟩ := look_openT hc
    exact ⟨n, hn, trivial⟩)
  exact ⟨A, c, ys, h1, h2⟩
theorem zs_openT (h : Rdg enc w B 117 cs) : ∃ (A : Option Addr) (c : Nat) (l : List V3), cs = [.slice A l.length c] ∧ Sl w B 3 A l.length c (zsC l) := by
  obtain ⟨A, c, ys, h1, h2, _, _⟩ := h.rows Tryz.underlying117 cArrS (by decide) v3C (fun _ => True) (fun cs' hc => by
    obtain ⟨n, hn⟩ := v3_openT hc
    exact ⟨n, hn, trivial⟩)
  exact ⟨A, c, ys, h1, h2⟩
set_option maxRecDepth 100000 in
theorem quad_openT (h : Rdg enc w B 25 cs) : ∃ p q x y : Int, cs = [.int .i64 p, .int .i64 q, .int .i64 x, .int .i64 y] := by
  obtain ⟨hl, hf⟩ := h.array Tryz.underlying25
  rw [cQuadT] at hl
  obtain ⟨a, b, c, d, rfl⟩ := listT4 hl
  have h0 := hf 0 (by decide)
  have h1 := hf 1 (by decide)
  have h2 := hf 2 (by decide)
  have h3 := hf 3 (by decide)
  rw [cIntS] at h0 h1 h2 h3
  obtain ⟨p, e0, _⟩ := h0.int Tryz.underlying3
  obtain ⟨q, e1, _⟩ := h1.int Tryz.underlying3
  obtain ⟨x, e2, _⟩ := h2.int Tryz.underlying3
  obtain ⟨y, e3, _⟩ := h3.int Tryz.underlying3
  cases e0; cases e1; cases e2; cases e3
  exact ⟨p, q, x, y, rfl⟩
set_option maxRecDepth 100000 in
theorem map_openT (h : Rdg enc w B 57 cs) : ∃ (n : Int) (A : Option Addr) (c : Nat) (ws : List Int) (C : Option Addr) (d : Nat) (sm : List Int), cs = [.int .i64 n, .slice A ws.length c, .slice C sm.length d] ∧ Sl w B 1 A ws.length c (ints ws) ∧ Sl w B 1 C sm.length d (ints sm) := by
  obtain ⟨hl, hf⟩ := h.struct Tryz.underlying57
  rw [cMapT] at hl
  obtain ⟨c0, c1, c2, rfl⟩ := listS3 hl
  have h0 : Rdg enc w B 3 ((([c0, c1, c2] : List Value).drop 0).take (Tryz.prog.cellsOf 3)) := hf 0 _ rfl
  have h1 : Rdg enc w B 27 ((([c0, c1, c2] : List Value).drop 1).take (Tryz.prog.cellsOf 27)) := hf 1 _ rfl
  have h2 : Rdg enc w B 27 ((([c0, c1, c2] : List Value).drop 2).take (Tryz.prog.cellsOf 27)) := hf 2 _ rfl
  rw [cIntS] at h0
  obtain ⟨n, e0, _⟩ := h0.int Tryz.underlying3
  rw [cIntsT] at h1
  obtain ⟨A, c, ws, e1, hW⟩ := ints_openT h1
  rw [cIntsT] at h2
  obtain ⟨C, d, sm, e2, hS⟩ := ints_openT h2
  simp at e0 e1 e2
  exact ⟨n, A, c, ws, C, d, sm, by rw [e0, e1, e2], hW, hS⟩
set_option maxRecDepth 100000 in
theorem lim_openT (h : Rdg enc w B 116 cs) : ∃ n d : Int, cs = [.int .i64 n, .int .i64 d] := by
  obtain ⟨hl, hf⟩ := h.struct Tryz.underlying116
  rw [cLimT] at hl
  obtain ⟨c0, c1, rfl⟩ := listS2 hl
  have h0 : Rdg enc w B 3 ((([c0, c1] : List Value).drop 0).take (Tryz.prog.cellsOf 3)) := hf 0 _ rfl
  have h1 : Rdg enc w B 3 ((([c0, c1] : List Value).drop 1).take (Tryz.prog.cellsOf 3)) := hf 1 _ rfl
  rw [cIntS] at h0
  obtain ⟨n, e0, _⟩ := h0.int Tryz.underlying3
  rw [cIntS] at h1
  obtain ⟨d, e1, _⟩ := h1.int Tryz.underlying3
  simp at e0 e1
  exact ⟨n, d, by rw [e0, e1]⟩
set_option maxRecDepth 100000 in
theorem scp_openT (h : Rdg enc w B 119 cs) : ∃ x : Scp, cs = x.cells ∧ x.nm.size ≤ maxLen ∧ Sl w B 3 x.ZA x.zs.length x.zc (zsC x.zs) := by
  obtain ⟨hl, hf⟩ := h.struct Tryz.underlying119
  rw [cScpT] at hl
  obtain ⟨c0, c1, c2, c3, c4, c5, rfl⟩ := listT6 hl
  have h0 : Rdg enc w B 9 ((([c0, c1, c2, c3, c4, c5] : List Value).drop 0).take (Tryz.prog.cellsOf 9)) := hf 0 _ rfl
  have h1 : Rdg enc w B 116 ((([c0, c1, c2, c3, c4, c5] : List Value).drop 1).take (Tryz.prog.cellsOf 116)) := hf 1 _ rfl
  have h2 : Rdg enc w B 116 ((([c0, c1, c2, c3, c4, c5] : List Value).drop 3).take (Tryz.prog.cellsOf 116)) := hf 2 _ rfl
  have h3 : Rdg enc w B 117 ((([c0, c1, c2, c3, c4, c5] : List Value).drop 5).take (Tryz.prog.cellsOf 117)) := hf 3 _ rfl
  rw [cStrT] at h0
  obtain ⟨nm, e0, hnm⟩ := h0.string Tryz.underlying9
  rw [cLimT] at h1
  obtain ⟨fn, fd, e1⟩ := lim_openT h1
  rw [cLimT] at h2
  obtain ⟨ln, ld, e2⟩ := lim_openT h2
  rw [cZsT] at h3
  obtain ⟨A, c, zs, e3, hz⟩ := zs_openT h3
  simp at e0 e1 e2 e3
  refine ⟨⟨nm, fn, fd, ln, ld, zs, A, c⟩, ?_, hnm, hz⟩
  rw [e0, e1.1, e1.2, e2.1, e2.2, e3]
  rfl
theorem scps_openT (h : Rdg enc w B 55 cs) : ∃ (A : Option Addr) (c : Nat) (l : List Scp), cs = [.slice A l.length c] ∧ Sl w B 6 A l.length c (scsC l) ∧ ∀ x ∈ l, x.nm.size ≤ maxLen ∧ Sl w B 3 x.ZA x.zs.length x.zc (zsC x.zs) := by
  obtain ⟨A, c, ys, h1, h2, _, h4⟩ := h.rows Tryz.underlying55 cScpT (by decide) Scp.cells (fun x => x.nm.size ≤ maxLen ∧ Sl w B 3 x.ZA x.zs.length x.zc (zsC x.zs)) (fun cs' hc => scp_openT hc)
  exact ⟨A, c, ys, h1, h2, h4⟩
end
end Go.Proofs.YtcclfhdglhbpcaaGreatDoor
