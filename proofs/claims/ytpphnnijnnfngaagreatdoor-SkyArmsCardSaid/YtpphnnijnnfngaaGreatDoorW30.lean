/-
  How the arguments of the sky's laws open: networks, shouts, arrivals, maps, telescopes, looks.
-/
import Derived.Test.YtpphnnijnnfngaaGreatDoorW27
import Derived.Test.YtpphnnijnnfngaaGreatDoorW10
import Derived.Test.YtpphnnijnnfngaaGreatDoorW13
import Derived.Test.YtpphnnijnnfngaaGreatDoorW18
namespace Go.Proofs.YtpphnnijnnfngaaGreatDoor
open Go.RowKit Al

theorem listT4 {l : List Value} (h : l.length = 4) : ∃ c0 c1 c2 c3, l = [c0, c1, c2, c3] := by
  match l, h with
  | [c0, c1, c2, c3], _ => exact ⟨c0, c1, c2, c3, rfl⟩
theorem listT6 {l : List Value} (h : l.length = 6) : ∃ c0 c1 c2 c3 c4 c5, l = [c0, c1, c2, c3, c4, c5] := by
  match l, h with
  | [c0, c1, c2, c3, c4, c5], _ => exact ⟨c0, c1, c2, c3, c4, c5, rfl⟩
theorem listT10 {l : List Value} (h : l.length = 10) : ∃ c0 c1 c2 c3 c4 c5 c6 c7 c8 c9, l = [c0, c1, c2, c3, c4, c5, c6, c7, c8, c9] := by
  match l, h with
  | [c0, c1, c2, c3, c4, c5, c6, c7, c8, c9], _ => exact ⟨c0, c1, c2, c3, c4, c5, c6, c7, c8, c9, rfl⟩
theorem cStrT : Tryz.prog.cellsOf 9 = 1 := by kernel_rfl
theorem cIntsT : Tryz.prog.cellsOf 48 = 1 := by kernel_rfl
theorem cSiteT : Tryz.prog.cellsOf 32 = 10 := by kernel_rfl
theorem cSitesT : Tryz.prog.cellsOf 22 = 1 := by kernel_rfl
theorem cNetT : Tryz.prog.cellsOf 24 = 3 := by kernel_rfl
theorem cLimT : Tryz.prog.cellsOf 101 = 2 := by kernel_rfl
theorem cScpT : Tryz.prog.cellsOf 104 = 6 := by kernel_rfl
theorem cZsT : Tryz.prog.cellsOf 102 = 1 := by kernel_rfl
theorem cLookT : Tryz.prog.cellsOf 62 = 3 := by kernel_rfl
section
variable {H : Type} {enc : TypeId × Value → H} {w : World} {B : Nat} {cs : List Value}
theorem v3_openT (h : Rdg enc w B 30 cs) : ∃ k : V3, cs = [.int .i64 k.1, .int .i64 k.2.1, .int .i64 k.2.2] := by
  obtain ⟨a, b, c, e⟩ := arr_openS h
  exact ⟨(a, b, c), e⟩
theorem ints_openT (h : Rdg enc w B 48 cs) : ∃ (A : Option Addr) (c : Nat) (l : List Int), cs = [.slice A l.length c] ∧ Sl w B 1 A l.length c (ints l) := by
  obtain ⟨A, c, ys, h1, h2, h3, h4⟩ := h.rows Tryz.underlying48 cIntS (by decide) (fun n : Int => [.int .i64 n]) (fun _ => True) (fun cs' hc => by
    obtain ⟨n, hn, _⟩ := hc.int Tryz.underlying3
    exact ⟨n, hn, trivial⟩)
  refine ⟨A, c, ys, h1, ?_⟩
  have e : ys.flatMap (fun n : Int => [Value.int .i64 n]) = ints ys := by
    clear h1 h2 h3 h4
    induction ys with
    | nil => rfl
    | cons y r ih => rw [List.flatMap_cons, ih]; rfl
  rw [e] at h2
  exact h2
set_option maxRecDepth 100000 in
theorem site_openT (h : Rdg enc w B 32 cs) : ∃ x : NSi, cs = nsCell x ∧ x.nm.size ≤ maxLen := by
  obtain ⟨hl, hf⟩ := h.struct Tryz.underlying32
  rw [cSiteT] at hl
  obtain ⟨c0, c1, c2, c3, c4, c5, c6, c7, c8, c9, rfl⟩ := listT10 hl
  have h0 : Rdg enc w B 9 ((([c0, c1, c2, c3, c4, c5, c6, c7, c8, c9] : List Value).drop 0).take (Tryz.prog.cellsOf 9)) := hf 0 _ rfl
  have h1 : Rdg enc w B 30 ((([c0, c1, c2, c3, c4, c5, c6, c7, c8, c9] : List Value).drop 1).take (Tryz.prog.cellsOf 30)) := hf 1 _ rfl
  have h2 : Rdg enc w B 30 ((([c0, c1, c2, c3, c4, c5, c6, c7, c8, c9] : List Value).drop 4).take (Tryz.prog.cellsOf 30)) := hf 2 _ rfl
  have h3 : Rdg enc w B 30 ((([c0, c1, c2, c3, c4, c5, c6, c7, c8, c9] : List Value).drop 7).take (Tryz.prog.cellsOf 30)) := hf 3 _ rfl
  rw [cStrT] at h0
  obtain ⟨nm, e0, hnm⟩ := h0.string Tryz.underlying9
  rw [cArrS] at h1
  obtain ⟨p, e1⟩ := v3_openT h1
  rw [cArrS] at h2
  obtain ⟨u, e2⟩ := v3_openT h2
  rw [cArrS] at h3
  obtain ⟨v, e3⟩ := v3_openT h3
  simp at e0 e1 e2 e3
  refine ⟨⟨nm, p, u, v⟩, ?_, hnm⟩
  rw [e0, e1.1, e1.2.1, e1.2.2, e2.1, e2.2.1, e2.2.2, e3.1, e3.2.1, e3.2.2]
  rfl
theorem sites_openT (h : Rdg enc w B 22 cs) : ∃ (A : Option Addr) (c : Nat) (l : List NSi), cs = [.slice A l.length c] ∧ Sl w B 10 A l.length c (nsCells l) ∧ ∀ x ∈ l, x.nm.size ≤ maxLen := by
  obtain ⟨A, c, ys, h1, h2, _, h4⟩ := h.rows Tryz.underlying22 cSiteT (by decide) nsCell (fun x => x.nm.size ≤ maxLen) (fun cs' hc => site_openT hc)
  exact ⟨A, c, ys, h1, h2, h4⟩
set_option maxRecDepth 100000 in
theorem net_openT (h : Rdg enc w B 24 cs) : ∃ (A : Option Addr) (c : Nat) (L : List NSi) (n k : Int), cs = [.slice A L.length c, .int .i64 n, .int .i64 k] ∧ Sl w B 10 A L.length c (nsCells L) ∧ ∀ x ∈ L, x.nm.size ≤ maxLen := by
  obtain ⟨hl, hf⟩ := h.struct Tryz.underlying24
  rw [cNetT] at hl
  obtain ⟨c0, c1, c2, rfl⟩ := listS3 hl
  have h0 : Rdg enc w B 22 ((([c0, c1, c2] : List Value).drop 0).take (Tryz.prog.cellsOf 22)) := hf 0 _ rfl
  have h1 : Rdg enc w B 3 ((([c0, c1, c2] : List Value).drop 1).take (Tryz.prog.cellsOf 3)) := hf 1 _ rfl
  have h2 : Rdg enc w B 3 ((([c0, c1, c2] : List Value).drop 2).take (Tryz.prog.cellsOf 3)) := hf 2 _ rfl
  rw [cSitesT] at h0
  obtain ⟨A, c, L, e0, hL, hm⟩ := sites_openT h0
  rw [cIntS] at h1
  obtain ⟨n, e1, _⟩ := h1.int Tryz.underlying3
  rw [cIntS] at h2
  obtain ⟨k, e2, _⟩ := h2.int Tryz.underlying3
  simp at e0 e1 e2
  exact ⟨A, c, L, n, k, by rw [e0, e1, e2], hL, hm⟩
set_option maxRecDepth 100000 in
theorem look_openT (h : Rdg enc w B 62 cs) : ∃ k : V3, cs = [.int .i64 k.1, .int .i64 k.2.1, .int .i64 k.2.2] := by
  obtain ⟨hl, hf⟩ := h.struct Tryz.underlying62
  rw [cLookT] at hl
  obtain ⟨c0, c1, c2, rfl⟩ := listS3 hl
  have h0 : Rdg enc w B 3 ((([c0, c1, c2] : List Value).drop 0).take (Tryz.prog.cellsOf 3)) := hf 0 _ rfl
  have h1 : Rdg enc w B 3 ((([c0, c1, c2] : List Value).drop 1).take (Tryz.prog.cellsOf 3)) := hf 1 _ rfl
  have h2 : Rdg enc w B 3 ((([c0, c1, c2] : List Value).drop 2).take (Tryz.prog.cellsOf 3)) := hf 2 _ rfl
  rw [cIntS] at h0
  obtain ⟨x0, e0, _⟩ := h0.int Tryz.underlying3
  rw [cIntS] at h1
  obtain ⟨x1, e1, _⟩ := h1.int Tryz.underlying3
  rw [cIntS] at h2
  obtain ⟨x2, e2, _⟩ := h2.int Tryz.underlying3
  simp at e0 e1 e2
  exact ⟨(x0, x1, x2), by rw [e0, e1, e2]⟩
theorem looks_openT (h : Rdg enc w B 54 cs) : ∃ (A : Option Addr) (c : Nat) (l : List V3), cs = [.slice A l.length c] ∧ Sl w B 3 A l.length c (zsC l) := by
  obtain ⟨A, c, ys, h1, h2, _, _⟩ := h.rows Tryz.underlying54 cLookT (by decide) v3C (fun _ => True) (fun cs' hc => by
    obtain ⟨n, hn⟩ := look_openT hc
    exact ⟨n, hn, trivial⟩)
  exact ⟨A, c, ys, h1, h2⟩
theorem zs_openT (h : Rdg enc w B 102 cs) : ∃ (A : Option Addr) (c : Nat) (l : List V3), cs = [.slice A l.length c] ∧ Sl w B 3 A l.length c (zsC l) := by
  obtain ⟨A, c, ys, h1, h2, _, _⟩ := h.rows Tryz.underlying102 cArrS (by decide) v3C (fun _ => True) (fun cs' hc => by
    obtain ⟨n, hn⟩ := v3_openT hc
    exact ⟨n, hn, trivial⟩)
  exact ⟨A, c, ys, h1, h2⟩
set_option maxRecDepth 100000 in
theorem lim_openT (h : Rdg enc w B 101 cs) : ∃ n d : Int, cs = [.int .i64 n, .int .i64 d] := by
  obtain ⟨hl, hf⟩ := h.struct Tryz.underlying101
  rw [cLimT] at hl
  obtain ⟨c0, c1, rfl⟩ := listS2 hl
  have h0 : Rdg enc w B 3 ((([c0, c1] : List Value).drop 0).take (Tryz.prog.cellsOf 3)) := hf 0 _ rfl
  have h1 : Rdg enc w B 3 ((([c0, c1] : List Value).drop 1).take (Tryz.prog.cellsOf 3)) := hf 1 _ rfl
  rw [cIntS] at h0
  obtain ⟨n, e0, _⟩ := h0.int Tryz.underlying3
  rw [cIntS] at h1
  obtain ⟨d, e1, _⟩ := h1.int Tryz.underlying3
  simp at e0 e1
  exact ⟨n, d, by rw [e0, e1]⟩
set_option maxRecDepth 100000 in
theorem scp_openT (h : Rdg enc w B 104 cs) : ∃ x : Scp, cs = x.cells ∧ x.nm.size ≤ maxLen ∧ Sl w B 3 x.ZA x.zs.length x.zc (zsC x.zs) := by
  obtain ⟨hl, hf⟩ := h.struct Tryz.underlying104
  rw [cScpT] at hl
  obtain ⟨c0, c1, c2, c3, c4, c5, rfl⟩ := listT6 hl
  have h0 : Rdg enc w B 9 ((([c0, c1, c2, c3, c4, c5] : List Value).drop 0).take (Tryz.prog.cellsOf 9)) := hf 0 _ rfl
  have h1 : Rdg enc w B 101 ((([c0, c1, c2, c3, c4, c5] : List Value).drop 1).take (Tryz.prog.cellsOf 101)) := hf 1 _ rfl
  have h2 : Rdg enc w B 101 ((([c0, c1, c2, c3, c4, c5] : List Value).drop 3).take (Tryz.prog.cellsOf 101)) := hf 2 _ rfl
  have h3 : Rdg enc w B 102 ((([c0, c1, c2, c3, c4, c5] : List Value).drop 5).take (Tryz.prog.cellsOf 102)) := hf 3 _ rfl
  rw [cStrT] at h0
  obtain ⟨nm, e0, hnm⟩ := h0.string Tryz.underlying9
  rw [cLimT] at h1
  obtain ⟨fn, fd, e1⟩ := lim_openT h1
  rw [cLimT] at h2
  obtain ⟨ln, ld, e2⟩ := lim_openT h2
  rw [cZsT] at h3
  obtain ⟨A, c, zs, e3, hz⟩ := zs_openT h3
  simp at e0 e1 e2 e3
  refine ⟨⟨nm, fn, fd, ln, ld, zs, A, c⟩, ?_, hnm, hz⟩
  rw [e0, e1.1, e1.2, e2.1, e2.2, e3]
  rfl
theorem scps_openT (h : Rdg enc w B 57 cs) : ∃ (A : Option Addr) (c : Nat) (l : List Scp), cs = [.slice A l.length c] ∧ Sl w B 6 A l.length c (scsC l) ∧ ∀ x ∈ l, x.nm.size ≤ maxLen ∧ Sl w B 3 x.ZA x.zs.length x.zc (zsC x.zs) := by
  obtain ⟨A, c, ys, h1, h2, _, h4⟩ := h.rows Tryz.underlying57 cScpT (by decide) Scp.cells (fun x => x.nm.size ≤ maxLen ∧ Sl w B 3 x.ZA x.zs.length x.zc (zsC x.zs)) (fun cs' hc => scp_openT hc)
  exact ⟨A, c, ys, h1, h2, h4⟩
end
end Go.Proofs.YtpphnnijnnfngaaGreatDoor
