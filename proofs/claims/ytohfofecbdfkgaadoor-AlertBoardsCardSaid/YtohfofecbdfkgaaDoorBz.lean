/-
  The board of the specification, in memory; the walks of of, last, Force, History of the specification.
-/
import Derived.Test.YtohfofecbdfkgaaDoorCq
import Derived.Deep.RegionLaw
import Derived.Test.YtohfofecbdfkgaaDoorRn
import Derived.Test.YtohfofecbdfkgaaDoorRc
namespace Go.Proofs.YtohfofecbdfkgaaDoor
open Go.RowKit Al

set_option maxRecDepth 100000 in
set_option maxHeartbeats 4000000 in
theorem of_ (L : List It) (N : Option Addr) (nc : Nat) (ev : ByteArray) (F : List It) (w : World) (hF : L.filter (ofEv ev) = F) (hL : Sl w w.heap.size 10 N L.length nc (itCells L)) (hlen : L.length ≤ 1048576) :
    Calls Tryd.prog 78 #[.slice N L.length nc, .string ev] w (OwnIts F w) := by
  subst hF
  obtain ⟨i0, hi, hz0, hz1, hz2⟩ := info_parts infoNtc
  have HL := Lib.hid hL
  clear hL
  go_enter Tryd.func78, Tryd.ntmps78
  go_wp2_with fail
  go_loopw [5, 6] (fun o i wr => FiRel w L ev o i wr) (fun _ i _ => L.length - (intOf i).toNat)
  case atStart => exact ⟨0, none, 0, Nat.zero_le _, rfl, rfl, World.ownsRow_nil _ _ _ _, Below.refl _ _⟩
  case round =>
    obtain ⟨k, A, c, hk, rfl, rfl, hown, hB⟩ := hrel
    have hsz := hB.size
    have HB := Lib.hid hB
    have HO := Lib.hid hown
    clear hB hown
    by_cases hlt : k < L.length
    · obtain ⟨b, off, rfl, hb, y0, y1, y2, y3, y4, y5, y6, y7, y8, y9⟩ := (HL.out.below HB.out).it_at hlt
      have i0' : (0 : Int) ≤ (k : Int) := by omega
      have i1' : (k : Int) < (L.length : Int) := by omega
      have hb2 : b < wr.heap.size := by omega
      have hll := ofL_len ev L k
      by_cases ho : (L[k].n.a.ev.toList == ev.toList) = true
      · have HX := Lib.hid (ofL_yes hlt ho)
        go_wp2_with (at_builtin; refine wpList_append_lies _ rfl _ _ 66 rfl w.heap.size 32 i0 (.agg #[.string ⟨#[]⟩, .int .i64 0, .int .i64 0, .int .i64 0, .int .i64 0, .int .i64 0, .slice none 0 0, .bool false, .int .i64 0, .slice none 0 0]) 10 120 Tryd.underlying66 hi hz0 hz1 hz2 rfl (by decide) (.slice A (ofL ev L k).length c) (ofL ev L k).length (itCells (ofL ev L k)) rfl (own_below HO.out (Nat.le_refl _) (by (repeat (first | exact Below.refl _ _ | assumption | refine below_drewN ?_ _ | refine Below.drew ?_ | refine Below.setCell ?_ (by first | omega | (simp; done) | (simp; omega)) _ | refine Below.alloc ?_ (by first | omega | (simp; done) | (simp; omega)) _)))) _ 1 1 L[k].lst rfl rfl (World.news_of_block (heap_alloc_new wr _)) (ntL_one _ _ _ _ _ _) (by decide) (by unfold maxLen; omega) (by omega) (by simp; omega) _ rfl ?_; intro g5 cap w5 hown5 hg5 hat5 hlt5)
        go_roundw
        case rel => exact fi_step hlt HX.out hown5 (HB.out.trans (Below.mono (by (repeat (first | exact Below.refl _ _ | assumption | refine below_drewN ?_ _ | refine Below.drew ?_ | refine Below.setCell ?_ (by first | omega | (simp; done) | (simp; omega)) _ | refine Below.alloc ?_ (by first | omega | (simp; done) | (simp; omega)) _))) hsz)) hg5 (fun g hg => own_base HO.out hg)
        case measure => simp [intOf]; omega
      · have ho' : (L[k].n.a.ev.toList == ev.toList) = false := by simpa using ho
        have HX := Lib.hid (ofL_no hlt ho')
        go_wp2_with fail
        go_roundw
        case rel =>
          refine ⟨k + 1, A, c, by omega, ?_, by go_num, ?_, HB.out⟩
          · rw [HX.out]
          · rw [HX.out]
            exact HO.out
        case measure => simp [intOf]; omega
    · obtain rfl : k = L.length := by omega
      rw [ofL_end] at *
      go_wp2_with fail
      go_ret
      exact ⟨A, c, rfl, HO.out, HB.out⟩

/-- A board of the specification: its roll, its notices. -/
structure SpAt (w : World) (R : Nat → Prop) (y : Nat) (ks : List (Int × Int)) (q : Int) (K : Option Addr) (kc : Nat) (L : List It) (N : Option Addr) (nc : Nat) : Prop where
  c0 : w.cell? ⟨y, 0, none⟩ = some (.slice K ks.length kc)
  c1 : w.cell? ⟨y, 1, none⟩ = some (.int .i64 q)
  c2 : w.cell? ⟨y, 2, none⟩ = some (.slice N L.length nc)
  f2 : w.frozen? ⟨y, 2, none⟩ = false
  keys : SlR w R 2 K ks.length kc (keyCells ks)
  row : w.ownsRow 0 32 10 (.slice N L.length nc) L.length (itCells L)
  its : ∀ x ∈ L, ItIn w R x
  rok : rollOk ks q = true
  max : L.length ≤ 256
  ry : ¬ R y
  ny : ∀ a, N = some a → ¬ R a.block ∧ a.block ≠ y
  lt : y < w.heap.size
  rl : ∀ i, R i → i < w.heap.size
/-- The blocks of a board of the specification. -/
def SpF (R : Nat → Prop) (y : Nat) (N : Option Addr) (i : Nat) : Prop := R i ∨ i = y ∨ ∃ a, N = some a ∧ a.block = i
theorem SpAt.keep {w w' : World} {R F : Nat → Prop} {y : Nat} {ks : List (Int × Int)} {q : Int} {K : Option Addr} {kc : Nat} {L : List It} {N : Option Addr} {nc : Nat} (h : SpAt w R y ks q K kc L N nc) (k : Kp F w w') (hF : ∀ i, SpF R y N i → ¬ F i) : SpAt w' R y ks q K kc L N nc := by
  have fy : ¬ F y := hF y (.inr (.inl rfl))
  have fr : ∀ i, R i → ¬ F i := fun i hi => hF i (.inl hi)
  have cc : ∀ j, w'.cell? ⟨y, j, none⟩ = w.cell? ⟨y, j, none⟩ := fun j => k.cell (p := ⟨y, j, none⟩) h.lt fy
  refine ⟨(cc 0).trans h.c0, (cc 1).trans h.c1, (cc 2).trans h.c2, (k.frozen (p := ⟨y, 2, none⟩) h.lt fy).trans h.f2, h.keys.keep k fr, own_keep h.row k (fun g hg => hF g (.inr (.inr ?_))),
    fun x hx => (h.its x hx).keep k fr, h.rok, h.max, h.ry, h.ny, Nat.lt_of_lt_of_le h.lt k.size, fun i hi => Nat.lt_of_lt_of_le (h.rl i hi) k.size⟩
  cases hN : N with
  | none => rw [hN] at hg; cases hg
  | some a => rw [hN] at hg; cases hg; exact ⟨a, rfl, rfl⟩
/-- A board of the specification whose blocks are among those of S. -/
def Sp (w : World) (S : Nat → Prop) (y : Nat) (ks : List (Int × Int)) (q : Int) (ns : List Ntc) : Prop :=
  ∃ R K kc L N nc, SpAt w R y ks q K kc L N nc ∧ L.map (·.n) = ns ∧ ∀ i, SpF R y N i → S i
theorem Sp.keep {w w' : World} {S F : Nat → Prop} {y : Nat} {ks : List (Int × Int)} {q : Int} {ns : List Ntc} (h : Sp w S y ks q ns) (k : Kp F w w') (hF : ∀ i, S i → ¬ F i) : Sp w' S y ks q ns := by
  obtain ⟨R, K, kc, L, N, nc, h1, h2, h3⟩ := h
  exact ⟨R, K, kc, L, N, nc, h1.keep k (fun i hi => hF i (h3 i hi)), h2, h3⟩
theorem Sp.mono {w : World} {S S' : Nat → Prop} {y : Nat} {ks : List (Int × Int)} {q : Int} {ns : List Ntc} (h : Sp w S y ks q ns) (hS : ∀ i, S i → S' i) : Sp w S' y ks q ns := by
  obtain ⟨R, K, kc, L, N, nc, h1, h2, h3⟩ := h
  exact ⟨R, K, kc, L, N, nc, h1, h2, fun i hi => hS i (h3 i hi)⟩
theorem Sp.below {w w' : World} {S : Nat → Prop} {y : Nat} {ks : List (Int × Int)} {q : Int} {ns : List Ntc} (h : Sp w S y ks q ns) (hb : Below w.heap.size w w') : Sp w' S y ks q ns := h.keep (F := fun _ => False) (Kp.of_below hb) (fun _ _ f => f)
theorem Sp.cut {w : World} {S : Nat → Prop} {y : Nat} {ks : List (Int × Int)} {q : Int} {ns : List Ntc} (h : Sp w S y ks q ns) : Sp w (fun i => S i ∧ i < w.heap.size) y ks q ns := by
  obtain ⟨R, K, kc, L, N, nc, h1, h2, h3⟩ := h
  refine ⟨R, K, kc, L, N, nc, h1, h2, fun i hi => ⟨h3 i hi, ?_⟩⟩
  rcases hi with hi | rfl | ⟨a, ha, rfl⟩
  · exact h1.rl i hi
  · exact h1.lt
  · exact (own_lt h1.row (g := a.block) (by rw [ha]; rfl)).2

set_option maxRecDepth 100000 in
set_option maxHeartbeats 4000000 in
theorem last_n (R : Nat → Prop) (y : Nat) (ks : List (Int × Int)) (q : Int) (K : Option Addr) (kc : Nat) (L : List It) (N : Option Addr) (nc : Nat) (ev : ByteArray) (w : World) (h : SpAt w R y ks q K kc L N nc) (hF : L.filter (ofEv ev) = []) :
    Calls Tryd.prog 77 #[.pointer (some ⟨y, 0, none⟩), .string ev] w fun e w' => e = .returned (.tuple #[Al.zero.val none 0, .bool false]) ∧ Below w.heap.size w w' := by
  have c2 := h.c2
  have hlt := h.lt
  have hmx := h.max
  have hlt2 : y < w.heap.size + 1 := by omega
  have HLs := Lib.hid (Sl.of_own h.row)
  have HFF := Lib.hid hF
  clear h hF
  go_enter Tryd.func77, Tryd.ntmps77
  go_wp2_with fail
  refine (of_ L N nc ev [] _ HFF.out ((HLs.out.below (by (repeat (first | exact Below.refl _ _ | assumption | refine below_drewN ?_ _ | refine Below.drew ?_ | refine Below.setCell ?_ (by first | omega | (simp; done) | (simp; omega)) _ | refine Below.alloc ?_ (by first | omega | (simp; done) | (simp; omega)) _)))).more (by simp)) (by omega)).mono ?_
  rintro e w2 ⟨F, fc, rfl, hown, hb⟩
  obtain ⟨hcw2, hfw2⟩ := bcell hb
  have Hw2 := Lib.hid ((show Below w.heap.size w _ from (by repeat (first | exact Below.refl _ _ | assumption | refine below_drewN ?_ _ | refine Below.drew ?_ | refine Below.setCell ?_ (by first | omega | (simp; done) | (simp; omega)) _ | refine Below.alloc ?_ (by first | omega | (simp; done) | (simp; omega)) _))).trans (hb.mono (by first | omega | (simp; done) | (simp; omega))))
  have hz := hb.size
  simp at hz
  have hz2 : w.heap.size < w2.heap.size := by omega
  clear hb hown
  go_wp2_with fail
  refine finCells (w := w2) (w.heap.size) (Al.zero.lst none 0) (.tuple #[Al.zero.val none 0, .bool false]) rfl ?_ ?_ ⟨rfl, ?_⟩
  · intro W hW
    have r0 := hW 0 (by simp)
    have r1 := hW 1 (by simp)
    have r2 := hW 2 (by simp)
    have r3 := hW 3 (by simp)
    have r4 := hW 4 (by simp)
    have r5 := hW 5 (by simp)
    have r6 := hW 6 (by simp)
    have r7 := hW 7 (by simp)
    have r8 := hW 8 (by simp)
    clear hW
    simp only [List.getElem_cons_zero, List.getElem_cons_succ] at r0 r1 r2 r3 r4 r5 r6 r7 r8
    simp [results, Tryd.results77, go_sem, r0, r1, r2, r3, r4, r5, r6, r7, r8]
  · refine lt9 ?_
    simp [go_sem, hcw2]
  · exact below_setCells (by omega) _ _ _ _ Hw2.out
set_option maxRecDepth 100000 in
set_option maxHeartbeats 4000000 in
theorem last_y (R : Nat → Prop) (y : Nat) (ks : List (Int × Int)) (q : Int) (K : Option Addr) (kc : Nat) (L : List It) (N : Option Addr) (nc : Nat) (ev : ByteArray) (F : List It) (k : Nat) (x : It) (w : World) (h : SpAt w R y ks q K kc L N nc) (hF : L.filter (ofEv ev) = F) (hk : F.length = k + 1) (hx : F[k]? = some x) :
    Calls Tryd.prog 77 #[.pointer (some ⟨y, 0, none⟩), .string ev] w fun e w' => e = .returned (.tuple #[x.n.a.val x.A x.c, .bool true]) ∧ Below w.heap.size w w' := by
  have c2 := h.c2
  have hlt := h.lt
  have hmx := h.max
  have hlt2 : y < w.heap.size + 1 := by omega
  have HLs := Lib.hid (Sl.of_own h.row)
  have HFF := Lib.hid hF
  have hFl : F.length ≤ 256 := by rw [← hF]; exact Nat.le_trans (List.length_filter_le _ _) hmx
  have hkl : k < F.length := by omega
  have n1 : (F.length == 0) = false := beq_eq_false_iff_ne.2 (by omega)
  have n2 : ((F.length : Int) == 0) = false := beq_eq_false_iff_ne.2 (by omega)
  have hq : (F.length : Int) - 1 = (k : Int) := by omega
  have i0 : (0 : Int) ≤ (k : Int) := by omega
  have i1 : (k : Int) < (F.length : Int) := by omega
  clear h hF hk
  go_enter Tryd.func77, Tryd.ntmps77
  go_wp2_with fail
  refine (of_ L N nc ev F _ HFF.out ((HLs.out.below (by (repeat (first | exact Below.refl _ _ | assumption | refine below_drewN ?_ _ | refine Below.drew ?_ | refine Below.setCell ?_ (by first | omega | (simp; done) | (simp; omega)) _ | refine Below.alloc ?_ (by first | omega | (simp; done) | (simp; omega)) _)))).more (by simp)) (by omega)).mono ?_
  rintro e w2 ⟨P, fc, rfl, hown, hb⟩
  obtain ⟨hcw2, hfw2⟩ := bcell hb
  have Hw2 := Lib.hid ((show Below w.heap.size w _ from (by repeat (first | exact Below.refl _ _ | assumption | refine below_drewN ?_ _ | refine Below.drew ?_ | refine Below.setCell ?_ (by first | omega | (simp; done) | (simp; omega)) _ | refine Below.alloc ?_ (by first | omega | (simp; done) | (simp; omega)) _))).trans (hb.mono (by first | omega | (simp; done) | (simp; omega))))
  have hz := hb.size
  simp at hz
  have hz2 : w.heap.size < w2.heap.size := by omega
  obtain ⟨b, off, rfl, hbl, y0, y1, y2, y3, y4, y5, y6, y7, y8, y9⟩ := (Sl.of_own hown).it_at hkl
  clear hb hown
  have hx2 : F[k] = x := by rw [List.getElem?_eq_getElem hkl] at hx; exact Option.some.inj hx
  rw [hx2] at y0 y1 y2 y3 y4 y5 y6 y7 y8 y9
  clear hx hx2
  go_wp2_with fail
  refine finCells (w := w2) (w.heap.size) (x.n.a.lst x.A x.c) (.tuple #[x.n.a.val x.A x.c, .bool true]) rfl ?_ ?_ ⟨rfl, ?_⟩
  · intro W hW
    have r0 := hW 0 (by simp)
    have r1 := hW 1 (by simp)
    have r2 := hW 2 (by simp)
    have r3 := hW 3 (by simp)
    have r4 := hW 4 (by simp)
    have r5 := hW 5 (by simp)
    have r6 := hW 6 (by simp)
    have r7 := hW 7 (by simp)
    have r8 := hW 8 (by simp)
    clear hW
    simp only [List.getElem_cons_zero, List.getElem_cons_succ] at r0 r1 r2 r3 r4 r5 r6 r7 r8
    simp [results, Tryd.results77, go_sem, r0, r1, r2, r3, r4, r5, r6, r7, r8]
  · refine lt9 ?_
    simp [go_sem, hcw2]
  · exact below_setCells (by omega) _ _ _ _ Hw2.out
end Go.Proofs.YtohfofecbdfkgaaDoor

/-
  The walks of last, Force, History of the specification, of a board of its.
-/
namespace Go.Proofs.YtohfofecbdfkgaaDoor
open Go.RowKit Al

/-- The last alert of an event, and whether there is one. -/
def lastR (ns : List Ntc) (s : List UInt8) : Alr × Bool := match lastOf ns s with
  | none => (Al.zero, false)
  | some x => (x, true)
/-- An alert that lies in memory, with an error. -/
def FrT (a : Alr) (k : Int) (w : World) (e : Ending) (w' : World) : Prop := ∃ A c, e = .returned (.tuple #[a.val A c, .int .i64 k]) ∧ AIn w' a A c ∧ Below w.heap.size w w'
/-- What last says of an alert, in this world and those that grow from it. -/
def LastSays (y : Nat) (ev : ByteArray) (a : Alr) (A : Option Addr) (c : Nat) (v : Bool) (w : World) : Prop :=
  ∀ W, Below w.heap.size w W → Calls Tryd.prog 77 #[.pointer (some ⟨y, 0, none⟩), .string ev] W fun e w' => e = .returned (.tuple #[a.val A c, .bool v]) ∧ Below W.heap.size W w'
theorem zero_in (w : World) : AIn w Al.zero none 0 := ⟨by decide, Sl.nilS _ _ _⟩
theorem last_is (S : Nat → Prop) (y : Nat) (ks : List (Int × Int)) (q : Int) (ns : List Ntc) (ev : ByteArray) (a : Alr) (v : Bool) (w : World) (hv : lastR ns ev.data.toList = (a, v)) (h : Sp w S y ks q ns) :
    ∃ A c, AIn w a A c ∧ LastSays y ev a A c v w := by
  obtain ⟨R, K, kc, L, N, nc, h, rfl, _⟩ := h
  obtain ⟨F, hF⟩ : ∃ F, L.filter (ofEv ev) = F := ⟨_, rfl⟩
  have hmem : ∀ x ∈ F, x ∈ L := fun x hx => by rw [← hF] at hx; exact (List.mem_filter.1 hx).1
  have hh := hist_of ev L
  rw [hF] at hh
  unfold lastR at hv
  rw [lastOf_hist, ← hh] at hv
  have up : ∀ W, Below w.heap.size w W → SpAt W R y ks q K kc L N nc := fun W hb => h.keep (F := fun _ => False) (Kp.of_below hb) (fun _ _ f => f)
  by_cases hn : F.length = 0
  · obtain rfl : F = [] := List.eq_nil_of_length_eq_zero hn
    cases hv
    exact ⟨none, 0, zero_in _, fun W hb => last_n R y ks q K kc L N nc ev W (up W hb) hF⟩
  · obtain ⟨k, hk⟩ : ∃ k, F.length = k + 1 := ⟨F.length - 1, by omega⟩
    have hkl : k < F.length := by omega
    have hne : F.map (·.n.a) ≠ [] := by intro e; have := congrArg List.length e; simp at this; rw [this] at hn; exact hn rfl
    rw [List.getLast?_eq_some_getLast hne, List.getLast_eq_getElem] at hv
    have e : (F.map (·.n.a)).length - 1 = k := by simp; omega
    simp only [e, List.getElem_map] at hv
    obtain ⟨rfl, rfl⟩ := Prod.mk.inj hv
    have hit := h.its F[k] (hmem _ (List.getElem_mem hkl))
    exact ⟨F[k].A, F[k].c, ⟨okA_ev hit.ok, hit.cells.sl⟩, fun W hb => last_y R y ks q K kc L N nc ev F k F[k] W (up W hb) hF hk (List.getElem?_eq_getElem hkl)⟩

set_option maxRecDepth 100000 in
set_option maxHeartbeats 4000000 in
theorem rforce_n (S : Nat → Prop) (y : Nat) (ks : List (Int × Int)) (q : Int) (ns : List Ntc) (ev : ByteArray) (w : World) (hv : lastR ns ev.data.toList = (Al.zero, false)) (h : Sp w S y ks q ns) :
    Calls Tryd.prog 40 #[.pointer (some ⟨y, 0, none⟩), .string ev] w (FrT Al.zero 4 w) := by
  obtain ⟨A, c, hin, hls⟩ := last_is _ _ _ _ _ _ _ _ _ hv h
  have HI := Lib.hid hin
  have HLS := Lib.hid hls
  clear hv h hin hls
  go_enter Tryd.func40, Tryd.ntmps40
  go_wp2_with fail
  refine (HLS.out _ (by (repeat (first | exact Below.refl _ _ | assumption | refine below_drewN ?_ _ | refine Below.drew ?_ | refine Below.setCell ?_ (by first | omega | (simp; done) | (simp; omega)) _ | refine Below.alloc ?_ (by first | omega | (simp; done) | (simp; omega)) _)))).mono ?_
  rintro e w2 ⟨rfl, hb⟩
  obtain ⟨hcw2, hfw2⟩ := bcell hb
  have Hw2 := Lib.hid ((show Below w.heap.size w _ from (by repeat (first | exact Below.refl _ _ | assumption | refine below_drewN ?_ _ | refine Below.drew ?_ | refine Below.setCell ?_ (by first | omega | (simp; done) | (simp; omega)) _ | refine Below.alloc ?_ (by first | omega | (simp; done) | (simp; omega)) _))).trans (hb.mono (by first | omega | (simp; done) | (simp; omega))))
  have hz := hb.size
  simp at hz
  have hz2 : w.heap.size < w2.heap.size := by omega
  have hz3 : w.heap.size < w2.heap.size + 1 := by omega
  clear hb
  go_wp2_with fail
  refine finCellsA (w := w2) (w.heap.size) (Al.zero.lst none 0) (.tuple #[Al.zero.val none 0, .int .i64 4]) rfl hz2 ?_ ?_ ⟨none, 0, rfl, zero_in _, ?_⟩
  · intro W hW
    have r0 := hW 0 (by simp)
    have r1 := hW 1 (by simp)
    have r2 := hW 2 (by simp)
    have r3 := hW 3 (by simp)
    have r4 := hW 4 (by simp)
    have r5 := hW 5 (by simp)
    have r6 := hW 6 (by simp)
    have r7 := hW 7 (by simp)
    have r8 := hW 8 (by simp)
    clear hW
    simp only [List.getElem_cons_zero, List.getElem_cons_succ] at r0 r1 r2 r3 r4 r5 r6 r7 r8
    simp [results, Tryd.results40, go_sem, r0, r1, r2, r3, r4, r5, r6, r7, r8]
  · refine lt9 ?_
    simp [go_sem, hcw2]
  · have hb := below_setCells (n := w.heap.size) (b := w.heap.size) (by omega) (Al.zero.lst none 0) 0 w w2 Hw2.out
    exact hb.alloc hb.size _
set_option maxRecDepth 100000 in
set_option maxHeartbeats 4000000 in
theorem rforce_w (S : Nat → Prop) (y : Nat) (ks : List (Int × Int)) (q : Int) (ns : List Ntc) (ev : ByteArray) (x : Alr) (w : World) (hv : lastR ns ev.data.toList = (x, true)) (hw : x.wd = true) (h : Sp w S y ks q ns) :
    Calls Tryd.prog 40 #[.pointer (some ⟨y, 0, none⟩), .string ev] w (FrT Al.zero 107 w) := by
  obtain ⟨xe, xv, xt, xn, xo, xg, xcs, xw, xb⟩ := x
  have hw' : xw = true := hw
  clear hw
  subst hw'
  obtain ⟨A, c, hin, hls⟩ := last_is _ _ _ _ _ _ _ _ _ hv h
  have HI := Lib.hid hin
  have HLS := Lib.hid hls
  clear hv h hin hls
  go_enter Tryd.func40, Tryd.ntmps40
  go_wp2_with fail
  refine (HLS.out _ (by (repeat (first | exact Below.refl _ _ | assumption | refine below_drewN ?_ _ | refine Below.drew ?_ | refine Below.setCell ?_ (by first | omega | (simp; done) | (simp; omega)) _ | refine Below.alloc ?_ (by first | omega | (simp; done) | (simp; omega)) _)))).mono ?_
  rintro e w2 ⟨rfl, hb⟩
  obtain ⟨hcw2, hfw2⟩ := bcell hb
  have Hw2 := Lib.hid ((show Below w.heap.size w _ from (by repeat (first | exact Below.refl _ _ | assumption | refine below_drewN ?_ _ | refine Below.drew ?_ | refine Below.setCell ?_ (by first | omega | (simp; done) | (simp; omega)) _ | refine Below.alloc ?_ (by first | omega | (simp; done) | (simp; omega)) _))).trans (hb.mono (by first | omega | (simp; done) | (simp; omega))))
  have hz := hb.size
  simp at hz
  have hz2 : w.heap.size < w2.heap.size := by omega
  have hz3 : w.heap.size < w2.heap.size + 1 := by omega
  clear hb
  go_wp2_with fail
  refine finCellsA (w := w2) (w.heap.size) (Al.zero.lst none 0) (.tuple #[Al.zero.val none 0, .int .i64 107]) rfl hz2 ?_ ?_ ⟨none, 0, rfl, zero_in _, ?_⟩
  · intro W hW
    have r0 := hW 0 (by simp)
    have r1 := hW 1 (by simp)
    have r2 := hW 2 (by simp)
    have r3 := hW 3 (by simp)
    have r4 := hW 4 (by simp)
    have r5 := hW 5 (by simp)
    have r6 := hW 6 (by simp)
    have r7 := hW 7 (by simp)
    have r8 := hW 8 (by simp)
    clear hW
    simp only [List.getElem_cons_zero, List.getElem_cons_succ] at r0 r1 r2 r3 r4 r5 r6 r7 r8
    simp [results, Tryd.results40, go_sem, r0, r1, r2, r3, r4, r5, r6, r7, r8]
  · refine lt9 ?_
    simp [go_sem, hcw2]
  · have hb := below_setCells (n := w.heap.size) (b := w.heap.size) (by omega) (Al.zero.lst none 0) 0 w w2 Hw2.out
    exact hb.alloc hb.size _
set_option maxRecDepth 100000 in
set_option maxHeartbeats 4000000 in
theorem rforce_y (S : Nat → Prop) (y : Nat) (ks : List (Int × Int)) (q : Int) (ns : List Ntc) (ev : ByteArray) (x : Alr) (w : World) (hv : lastR ns ev.data.toList = (x, true)) (hw : x.wd = false) (h : Sp w S y ks q ns) :
    Calls Tryd.prog 40 #[.pointer (some ⟨y, 0, none⟩), .string ev] w (FrT x 0 w) := by
  obtain ⟨xe, xv, xt, xn, xo, xg, xcs, xw, xb⟩ := x
  have hw' : xw = false := hw
  clear hw
  subst hw'
  obtain ⟨A, c, hin, hls⟩ := last_is _ _ _ _ _ _ _ _ _ hv h
  have HI := Lib.hid hin
  have HLS := Lib.hid hls
  clear hv h hin hls
  go_enter Tryd.func40, Tryd.ntmps40
  go_wp2_with fail
  refine (HLS.out _ (by (repeat (first | exact Below.refl _ _ | assumption | refine below_drewN ?_ _ | refine Below.drew ?_ | refine Below.setCell ?_ (by first | omega | (simp; done) | (simp; omega)) _ | refine Below.alloc ?_ (by first | omega | (simp; done) | (simp; omega)) _)))).mono ?_
  rintro e w2 ⟨rfl, hb⟩
  obtain ⟨hcw2, hfw2⟩ := bcell hb
  have Hw2 := Lib.hid ((show Below w.heap.size w _ from (by repeat (first | exact Below.refl _ _ | assumption | refine below_drewN ?_ _ | refine Below.drew ?_ | refine Below.setCell ?_ (by first | omega | (simp; done) | (simp; omega)) _ | refine Below.alloc ?_ (by first | omega | (simp; done) | (simp; omega)) _))).trans (hb.mono (by first | omega | (simp; done) | (simp; omega))))
  have hz := hb.size
  simp at hz
  have hz2 : w.heap.size < w2.heap.size := by omega
  have hz3 : w.heap.size < w2.heap.size + 1 := by omega
  clear hb
  go_wp2_with fail
  refine finCellsA (w := w2) (w.heap.size) ((⟨xe, xv, xt, xn, xo, xg, xcs, false, xb⟩ : Alr).lst A c) (.tuple #[(⟨xe, xv, xt, xn, xo, xg, xcs, false, xb⟩ : Alr).val A c, .int .i64 0]) rfl hz2 ?_ ?_ ⟨A, c, rfl, ?_, ?_⟩
  · intro W hW
    have r0 := hW 0 (by simp)
    have r1 := hW 1 (by simp)
    have r2 := hW 2 (by simp)
    have r3 := hW 3 (by simp)
    have r4 := hW 4 (by simp)
    have r5 := hW 5 (by simp)
    have r6 := hW 6 (by simp)
    have r7 := hW 7 (by simp)
    have r8 := hW 8 (by simp)
    clear hW
    simp only [List.getElem_cons_zero, List.getElem_cons_succ] at r0 r1 r2 r3 r4 r5 r6 r7 r8
    simp [results, Tryd.results40, go_sem, r0, r1, r2, r3, r4, r5, r6, r7, r8]
  · refine lt9 ?_
    simp [go_sem, hcw2]
  · have hb := below_setCells (n := w.heap.size) (b := w.heap.size) (by omega) ((⟨xe, xv, xt, xn, xo, xg, xcs, false, xb⟩ : Alr).lst A c) 0 w w2 Hw2.out
    exact HI.out.below (hb.alloc hb.size _)
  · have hb := below_setCells (n := w.heap.size) (b := w.heap.size) (by omega) ((⟨xe, xv, xt, xn, xo, xg, xcs, false, xb⟩ : Alr).lst A c) 0 w w2 Hw2.out
    exact hb.alloc hb.size _
theorem rForce_ (S : Nat → Prop) (y : Nat) (ks : List (Int × Int)) (q : Int) (ns : List Ntc) (ev : ByteArray) (x : Alr) (k : Int) (w : World) (hv : forceR ns ev.data.toList = (x, k)) (h : Sp w S y ks q ns) :
    Calls Tryd.prog 40 #[.pointer (some ⟨y, 0, none⟩), .string ev] w (FrT x k w) := by
  unfold forceR at hv
  cases hl : lastOf ns ev.data.toList with
  | none =>
    rw [hl] at hv
    cases hv
    exact rforce_n S y ks q ns ev w (by unfold lastR; rw [hl]) h
  | some z =>
    rw [hl] at hv
    have hv' : (if z.wd then (Al.zero, 107) else (z, 0)) = (x, k) := hv
    cases hw : z.wd with
    | true =>
      rw [hw] at hv'
      cases hv'
      exact rforce_w S y ks q ns ev _ w (by unfold lastR; rw [hl]) hw h
    | false =>
      rw [hw] at hv'
      cases hv'
      exact rforce_y S y ks q ns ev _ w (by unfold lastR; rw [hl]) hw h
end Go.Proofs.YtohfofecbdfkgaaDoor

/-
  The walks of History, OwnNotice and NewBoard of the specification.
-/
namespace Go.Proofs.YtohfofecbdfkgaaDoor
open Go.RowKit Al

/-- An item's alert. -/
def toIa (x : It) : Ia := ⟨x.n.a, x.A, x.c⟩
def RhRel (w2 : World) (L : List It) (o i : Value) (wr : World) : Prop :=
  ∃ (k : Nat) (P : Option Addr) (pc : Nat), k ≤ L.length ∧ o = .slice P k pc ∧ i = .int .i64 k ∧ wr.ownsRow w2.heap.size 29 9 (.slice P k pc) k (iaCells ((L.take k).map toIa)) ∧ Below w2.heap.size w2 wr
/-- Alerts handed back that lie in memory. -/
def OwnHr (l : List Alr) (w : World) (e : Ending) (w' : World) : Prop := ∃ (F : List Ia) (P : Option Addr) (pc : Nat), F.map (·.a) = l ∧ e = .returned (.slice P F.length pc) ∧ Sl w' w'.heap.size 9 P F.length pc (iaCells F) ∧ (∀ x ∈ F, AIn w' x.a x.A x.c) ∧ Below w.heap.size w w'
theorem ia_next {L : List It} {k : Nat} (hk : k < L.length) : iaCells ((L.take (k + 1)).map toIa) = iaCells ((L.take k).map toIa) ++ (toIa L[k]).lst := by
  rw [List.take_succ_eq_append_getElem hk, List.map_append, List.map_cons, List.map_nil, iaCells_snoc]
set_option maxRecDepth 100000 in
set_option maxHeartbeats 4000000 in
theorem rHistory_ (S : Nat → Prop) (y : Nat) (ks : List (Int × Int)) (q : Int) (ns : List Ntc) (ev : ByteArray) (w : World) (l : List Alr) (hl : hist ns ev.data.toList = l) (h : Sp w S y ks q ns) :
    Calls Tryd.prog 41 #[.pointer (some ⟨y, 0, none⟩), .string ev] w (OwnHr l w) := by
  obtain ⟨R, K, kc, L, N, nc, h, rfl, _⟩ := h
  obtain ⟨i0, hi, hz0, hz1, hz2⟩ := info_parts infoAl
  have c2 := h.c2
  have hlt := h.lt
  have hmx := h.max
  have HLs := Lib.hid (Sl.of_own h.row)
  obtain ⟨F', hF'⟩ : ∃ F', L.filter (ofEv ev) = F' := ⟨_, rfl⟩
  have HF : Hid (F'.map (·.n.a) = l) := by rw [← hF', ← hl]; exact hist_of ev L
  have hFl : F'.length ≤ 256 := by rw [← hF']; exact Nat.le_trans (List.length_filter_le _ _) hmx
  have HI0 : Hid (∀ x ∈ F', ItIn w R x) := fun x hx => by rw [← hF'] at hx; exact h.its x (List.mem_filter.1 hx).1
  have HFF := Lib.hid hF'
  clear h hF' hl
  go_enter Tryd.func41, Tryd.ntmps41
  go_wp2_with fail
  refine (of_ L N nc ev F' _ HFF.out ((HLs.out.below (by (repeat (first | exact Below.refl _ _ | assumption | refine below_drewN ?_ _ | refine Below.drew ?_ | refine Below.setCell ?_ (by first | omega | (simp; done) | (simp; omega)) _ | refine Below.alloc ?_ (by first | omega | (simp; done) | (simp; omega)) _)))).more (by simp)) (by omega)).mono ?_
  rintro e w2 ⟨P0, fc, rfl, hown, hb⟩
  have HO := Lib.hid (Sl.of_own hown)
  have Hw2 := Lib.hid ((show Below w.heap.size w _ from (by repeat (first | exact Below.refl _ _ | assumption | refine below_drewN ?_ _ | refine Below.drew ?_ | refine Below.setCell ?_ (by first | omega | (simp; done) | (simp; omega)) _ | refine Below.alloc ?_ (by first | omega | (simp; done) | (simp; omega)) _))).trans (hb.mono (by first | omega | (simp; done) | (simp; omega))))
  clear hb hown
  go_wp2_with fail
  go_loopw [5, 7] (fun o i wr => RhRel w2 F' o i wr) (fun _ i _ => F'.length - (intOf i).toNat)
  case atStart => exact ⟨0, none, 0, Nat.zero_le _, rfl, rfl, World.ownsRow_nil _ _ _ _, Below.refl _ _⟩
  case round =>
    obtain ⟨k, P, pc, hk, rfl, rfl, hrow, hB⟩ := hrel
    have HR := Lib.hid hrow
    have HB := Lib.hid hB
    have hsz := hB.size
    clear hrow hB
    by_cases hlt3 : k < F'.length
    · obtain ⟨fb, off, rfl, hfb, y0, y1, y2, y3, y4, y5, y6, y7, y8, y9⟩ := (HO.out.below HB.out).it_at hlt3
      have i0' : (0 : Int) ≤ (k : Int) := by omega
      have i1' : (k : Int) < (F'.length : Int) := by omega
      have hb2 : fb < wr.heap.size := by omega
      have HX := Lib.hid (ia_next hlt3)
      obtain ⟨x, hx⟩ : ∃ x, x = F'[k] := ⟨_, rfl⟩
      rw [← hx] at y0 y1 y2 y3 y4 y5 y6 y7 y8 y9 HX
      clear hx
      go_wp2_with (at_builtin; refine wpList_append_lies _ rfl _ _ 70 rfl w2.heap.size 29 i0 (.agg #[.string ⟨#[]⟩, .int .i64 0, .int .i64 0, .int .i64 0, .int .i64 0, .int .i64 0, .slice none 0 0, .bool false, .int .i64 0]) 9 96 Tryd.underlying70 hi hz0 hz1 hz2 rfl (by decide) (.slice P k pc) k (iaCells ((F'.take k).map toIa)) rfl (own_below HR.out (Nat.le_refl _) (by (repeat (first | exact Below.refl _ _ | assumption | refine below_drewN ?_ _ | refine Below.drew ?_ | refine Below.setCell ?_ (by first | omega | (simp; done) | (simp; omega)) _ | refine Below.alloc ?_ (by first | omega | (simp; done) | (simp; omega)) _)))) _ 1 1 (x.n.a.lst x.A x.c) rfl rfl (World.news_of_block (heap_alloc_new wr _)) (alst_one _ _ _) (by decide) (by unfold maxLen; omega) (by omega) (by simp; omega) _ rfl ?_; intro g5 cap w5 hown5 hg5 hat5 hlt5)
      go_roundw
      case rel => exact ⟨k + 1, some ⟨g5, 0, none⟩, cap, by omega, rfl, by go_num, by rw [HX.out]; exact hown5, HB.out.trans (((show Below wr.heap.size wr _ from (by (repeat (first | exact Below.refl _ _ | assumption | refine below_drewN ?_ _ | refine Below.drew ?_ | refine Below.setCell ?_ (by first | omega | (simp; done) | (simp; omega)) _ | refine Below.alloc ?_ (by first | omega | (simp; done) | (simp; omega)) _)))).mono hsz).grown hg5 (by simp; omega) (fun g hg => own_base HR.out hg))⟩
      case measure => simp [intOf]; omega
    · obtain rfl : k = F'.length := by omega
      go_wp2_with fail
      go_ret
      have hm : (F'.map toIa).length = F'.length := by simp
      refine ⟨F'.map toIa, P, pc, ?_, by rw [hm]; rfl, ?_, ?_, Hw2.out.trans (HB.out.mono Hw2.out.size)⟩
      · rw [List.map_map]; exact HF.out
      · have := Sl.of_own HR.out
        rw [List.take_of_length_le (Nat.le_refl _)] at this
        rw [hm]
        exact this
      · intro z hz
        obtain ⟨x, hx, rfl⟩ := List.mem_map.1 hz
        have hit := HI0.out x hx
        exact ⟨okA_ev hit.ok, (hit.cells.keep (F := fun _ => False) (Kp.of_below (Hw2.out.trans (HB.out.mono Hw2.out.size))) (fun _ _ f => f)).sl⟩

set_option maxRecDepth 100000 in
set_option maxHeartbeats 4000000 in
theorem OwnNotice_ (n : Ntc) (A : Option Addr) (c : Nat) (S : Option Addr) (sc : Nat) (w : World) (h : NIn w n A c S sc) (hb : n.a.cells.length * 8 ≤ 140737488355328) (hb2 : n.sg.length * 16 ≤ 140737488355328) :
    Calls Tryd.prog 38 #[n.val A c S sc] w (OwnN n w) := by
  obtain ⟨i0, hi, hz0, hz1, hz2⟩ := info_parts infoSig
  have HN := Lib.hid h
  have hcm : n.sg.length ≤ maxLen := Nat.le_trans h.sl.cap h.sl.max
  have g0 : w.heap.size < w.heap.size + 2 := by omega
  have g1 : w.heap.size + 1 < w.heap.size + 2 := by omega
  clear h
  go_enter Tryd.func38, Tryd.ntmps38
  go_wp2_with
    (at_builtin; go_must (refine wpList_append_sl rfl _ _ 30 rfl (w.heap.size + 2) 115 i0 (.agg #[.int .i64 0, .int .i64 0]) 2 16 Tryd.underlying30 hi hz0 hz1 hz2 rfl (by decide) _ 0 _ rfl (World.ownsRow_nil _ _ _ _) w.heap.size _ _ _ _ rfl (HN.out.sl.below (by (repeat (first | exact Below.refl _ _ | assumption | refine below_drewN ?_ _ | refine Below.drew ?_ | refine Below.setCell ?_ (by first | omega | (simp; done) | (simp; omega)) _ | refine Below.alloc ?_ (by first | omega | (simp; done) | (simp; omega)) _)))) (keyCells_one _) (by omega) (by omega) (by simp) ?_); intro v' w1 hown hgrow _
     obtain ⟨S', sc', rfl⟩ := own_form hown
     simp only [Nat.zero_add, List.nil_append] at hown
     have HG := Lib.hid ((Below.refl (w.heap.size + 2) _).grown hgrow (by simp) (by intro k hk; cases hk))
     have HO := Lib.hid hown
     obtain ⟨hcw1, hfw1⟩ := bcell HG.out
     have HBw1 : Hid (Below w.heap.size w w1) := (show Below w.heap.size w _ from by (repeat (first | exact Below.refl _ _ | assumption | refine below_drewN ?_ _ | refine Below.drew ?_ | refine Below.setCell ?_ (by first | omega | (simp; done) | (simp; omega)) _ | refine Below.alloc ?_ (by first | omega | (simp; done) | (simp; omega)) _))).trans (HG.out.mono (by omega))
     have hz3 : w.heap.size + 2 ≤ w1.heap.size := by have := HG.out.size; simp at this; omega
     have g2 : w.heap.size < w1.heap.size := by omega
     have g3 : w.heap.size + 1 < w1.heap.size := by omega
     clear hgrow hown HG)
  refine (OwnInts_ n.a.cells A c _ ((HN.out.al.below (by repeat (first | exact Below.refl _ _ | exact (HBw1).out | refine below_drewN ?_ _ | refine Below.drew ?_ | refine Below.setCell ?_ (by first | omega | (simp; done) | (simp; omega)) _ | refine Below.alloc ?_ (by first | omega | (simp; done) | (simp; omega)) _))).sl) hb).mono ?_
  rintro e w2 ⟨A', c', rfl, hown2, hbw⟩
  have HO2 := Lib.hid hown2
  have HOL : Hid (∀ g, (Value.slice S' n.sg.length sc').ownBlock = some g → g < w1.heap.size) := fun g hg => (own_lt HO.out hg).2
  have HO1 : Hid (w2.ownsRow (w.heap.size + 2) 115 2 (.slice S' n.sg.length sc') n.sg.length (keyCells n.sg)) := by
    refine own_below (own_below (ownsRow_setCell_below (by have := HO.out; simpa using this) (by show w.heap.size < w.heap.size + 2; omega) _) (Nat.le_refl _) ((Below.refl _ _).alloc (Nat.le_refl _) _)) (Nat.le_refl _) hbw
  have HO3 : Hid ((w2.setCell ⟨w1.heap.size, 6, none⟩ (.slice A' n.a.cells.length c')).ownsRow (w.heap.size + 2) 115 2 (.slice S' n.sg.length sc') n.sg.length (keyCells n.sg)) :=
    own_keep HO1.out ((Kp.refl (fun i => i = w1.heap.size) w2).setCell (p := ⟨w1.heap.size, 6, none⟩) (.inl rfl) _) (fun g hg f => by have := HOL.out g hg; omega)
  obtain ⟨hcw2, hfw2⟩ := bcell hbw
  have HBw2 : Hid (Below w.heap.size w w2) := (show Below w.heap.size w _ from (by repeat (first | exact Below.refl _ _ | exact (HBw1).out | refine below_drewN ?_ _ | refine Below.drew ?_ | refine Below.setCell ?_ (by first | omega | (simp; done) | (simp; omega)) _ | refine Below.alloc ?_ (by first | omega | (simp; done) | (simp; omega)) _))).trans (hbw.mono (by first | omega | (simp; done) | (simp; omega)))
  have hz4 : w1.heap.size + 1 ≤ w2.heap.size := by have := hbw.size; simp at this; omega
  have g4 : w.heap.size < w1.heap.size + 1 := by omega
  have g5 : w.heap.size + 1 < w1.heap.size + 1 := by omega
  have g6 : w1.heap.size < w1.heap.size + 1 := by omega
  have g7 : w.heap.size ≠ w1.heap.size := by omega
  have g8 : w.heap.size + 1 ≠ w1.heap.size := by omega
  have k9 : (w1.setCell ⟨w.heap.size, 9, none⟩ (.slice S' n.sg.length sc')).cell? ⟨w.heap.size, 9, none⟩ = some (.slice S' n.sg.length sc') := World.cell?_setCell_same' _ _ _ (by rw [hcw1 _ _ g0]; simp [go_sem])
  have k6 : (w2.setCell ⟨w1.heap.size, 6, none⟩ (.slice A' n.a.cells.length c')).cell? ⟨w1.heap.size, 6, none⟩ = some (.slice A' n.a.cells.length c') := World.cell?_setCell_same' _ _ _ (by rw [hcw2 _ _ (by simp)]; simp [go_sem])
  clear hown2 hbw
  have his : ∀ j, j < 9 → ((w2.setCell ⟨w1.heap.size, 6, none⟩ (.slice A' n.a.cells.length c')).cell? ⟨w.heap.size, j, none⟩).isSome = true := by
    refine lt9 ?_
    simp [go_sem, hcw2, hcw1, g0, g2, g4]
  have hin : ∀ j (hj : j < ([.string n.a.ev, .int .i64 n.a.ver, .int .i64 n.a.tm, .int .i64 n.a.n, .int .i64 n.a.of, .int .i64 n.a.grid, .slice A' n.a.cells.length c', .bool n.a.wd, .int .i64 n.a.before] : List Value).length), ((w2.setCell ⟨w1.heap.size, 6, none⟩ (.slice A' n.a.cells.length c')).setCells w.heap.size 0 [.string n.a.ev, .int .i64 n.a.ver, .int .i64 n.a.tm, .int .i64 n.a.n, .int .i64 n.a.of, .int .i64 n.a.grid, .slice A' n.a.cells.length c', .bool n.a.wd, .int .i64 n.a.before]).cell? ⟨w.heap.size, j, none⟩ = some ([.string n.a.ev, .int .i64 n.a.ver, .int .i64 n.a.tm, .int .i64 n.a.n, .int .i64 n.a.of, .int .i64 n.a.grid, .slice A' n.a.cells.length c', .bool n.a.wd, .int .i64 n.a.before] : List Value)[j] := fun j hj => by
    have := World.cell?_setCells_in w.heap.size [.string n.a.ev, .int .i64 n.a.ver, .int .i64 n.a.tm, .int .i64 n.a.n, .int .i64 n.a.of, .int .i64 n.a.grid, .slice A' n.a.cells.length c', .bool n.a.wd, .int .i64 n.a.before] 0 (w2.setCell ⟨w1.heap.size, 6, none⟩ (.slice A' n.a.cells.length c')) (fun j hj => by rw [Nat.zero_add]; exact his j hj) j hj
    rwa [Nat.zero_add] at this
  have y0 : ((w2.setCell ⟨w1.heap.size, 6, none⟩ (.slice A' n.a.cells.length c')).setCells w.heap.size 0 [.string n.a.ev, .int .i64 n.a.ver, .int .i64 n.a.tm, .int .i64 n.a.n, .int .i64 n.a.of, .int .i64 n.a.grid, .slice A' n.a.cells.length c', .bool n.a.wd, .int .i64 n.a.before]).cell? ⟨w.heap.size, 0, none⟩ = some (.string n.a.ev) := hin 0 (show 0 < 9 by decide)
  have y1 : ((w2.setCell ⟨w1.heap.size, 6, none⟩ (.slice A' n.a.cells.length c')).setCells w.heap.size 0 [.string n.a.ev, .int .i64 n.a.ver, .int .i64 n.a.tm, .int .i64 n.a.n, .int .i64 n.a.of, .int .i64 n.a.grid, .slice A' n.a.cells.length c', .bool n.a.wd, .int .i64 n.a.before]).cell? ⟨w.heap.size, 1, none⟩ = some (.int .i64 n.a.ver) := hin 1 (show 1 < 9 by decide)
  have y2 : ((w2.setCell ⟨w1.heap.size, 6, none⟩ (.slice A' n.a.cells.length c')).setCells w.heap.size 0 [.string n.a.ev, .int .i64 n.a.ver, .int .i64 n.a.tm, .int .i64 n.a.n, .int .i64 n.a.of, .int .i64 n.a.grid, .slice A' n.a.cells.length c', .bool n.a.wd, .int .i64 n.a.before]).cell? ⟨w.heap.size, 2, none⟩ = some (.int .i64 n.a.tm) := hin 2 (show 2 < 9 by decide)
  have y3 : ((w2.setCell ⟨w1.heap.size, 6, none⟩ (.slice A' n.a.cells.length c')).setCells w.heap.size 0 [.string n.a.ev, .int .i64 n.a.ver, .int .i64 n.a.tm, .int .i64 n.a.n, .int .i64 n.a.of, .int .i64 n.a.grid, .slice A' n.a.cells.length c', .bool n.a.wd, .int .i64 n.a.before]).cell? ⟨w.heap.size, 3, none⟩ = some (.int .i64 n.a.n) := hin 3 (show 3 < 9 by decide)
  have y4 : ((w2.setCell ⟨w1.heap.size, 6, none⟩ (.slice A' n.a.cells.length c')).setCells w.heap.size 0 [.string n.a.ev, .int .i64 n.a.ver, .int .i64 n.a.tm, .int .i64 n.a.n, .int .i64 n.a.of, .int .i64 n.a.grid, .slice A' n.a.cells.length c', .bool n.a.wd, .int .i64 n.a.before]).cell? ⟨w.heap.size, 4, none⟩ = some (.int .i64 n.a.of) := hin 4 (show 4 < 9 by decide)
  have y5 : ((w2.setCell ⟨w1.heap.size, 6, none⟩ (.slice A' n.a.cells.length c')).setCells w.heap.size 0 [.string n.a.ev, .int .i64 n.a.ver, .int .i64 n.a.tm, .int .i64 n.a.n, .int .i64 n.a.of, .int .i64 n.a.grid, .slice A' n.a.cells.length c', .bool n.a.wd, .int .i64 n.a.before]).cell? ⟨w.heap.size, 5, none⟩ = some (.int .i64 n.a.grid) := hin 5 (show 5 < 9 by decide)
  have y6 : ((w2.setCell ⟨w1.heap.size, 6, none⟩ (.slice A' n.a.cells.length c')).setCells w.heap.size 0 [.string n.a.ev, .int .i64 n.a.ver, .int .i64 n.a.tm, .int .i64 n.a.n, .int .i64 n.a.of, .int .i64 n.a.grid, .slice A' n.a.cells.length c', .bool n.a.wd, .int .i64 n.a.before]).cell? ⟨w.heap.size, 6, none⟩ = some (.slice A' n.a.cells.length c') := hin 6 (show 6 < 9 by decide)
  have y7 : ((w2.setCell ⟨w1.heap.size, 6, none⟩ (.slice A' n.a.cells.length c')).setCells w.heap.size 0 [.string n.a.ev, .int .i64 n.a.ver, .int .i64 n.a.tm, .int .i64 n.a.n, .int .i64 n.a.of, .int .i64 n.a.grid, .slice A' n.a.cells.length c', .bool n.a.wd, .int .i64 n.a.before]).cell? ⟨w.heap.size, 7, none⟩ = some (.bool n.a.wd) := hin 7 (show 7 < 9 by decide)
  have y8 : ((w2.setCell ⟨w1.heap.size, 6, none⟩ (.slice A' n.a.cells.length c')).setCells w.heap.size 0 [.string n.a.ev, .int .i64 n.a.ver, .int .i64 n.a.tm, .int .i64 n.a.n, .int .i64 n.a.of, .int .i64 n.a.grid, .slice A' n.a.cells.length c', .bool n.a.wd, .int .i64 n.a.before]).cell? ⟨w.heap.size, 8, none⟩ = some (.int .i64 n.a.before) := hin 8 (show 8 < 9 by decide)
  have y9 : ((w2.setCell ⟨w1.heap.size, 6, none⟩ (.slice A' n.a.cells.length c')).setCells w.heap.size 0 [.string n.a.ev, .int .i64 n.a.ver, .int .i64 n.a.tm, .int .i64 n.a.n, .int .i64 n.a.of, .int .i64 n.a.grid, .slice A' n.a.cells.length c', .bool n.a.wd, .int .i64 n.a.before]).cell? ⟨w.heap.size, 9, none⟩ = some (.slice S' n.sg.length sc') := by
    rw [World.cell?_setCells_out _ _ _ _ _ (fun _ _ => .inr (by show 0 + 9 ≤ 9; omega))]
    simp [go_sem, hcw2, g2, g4, k9]
  clear his hin
  go_wp2_with fail
  refine finCells (w := (w2.setCell ⟨w1.heap.size, 6, none⟩ (.slice A' n.a.cells.length c')).setCells w.heap.size 0 [.string n.a.ev, .int .i64 n.a.ver, .int .i64 n.a.tm, .int .i64 n.a.n, .int .i64 n.a.of, .int .i64 n.a.grid, .slice A' n.a.cells.length c', .bool n.a.wd, .int .i64 n.a.before]) (w.heap.size + 1) (ntL n.a A' c' S' n.sg.length sc') (n.val A' c' S' sc') rfl ?_ ?_ (show OwnN n w _ _ from ⟨A', c', S', sc', rfl, ?_, ?_, ?_⟩)
  · intro W hW
    have r0 := hW 0 (by simp)
    have r1 := hW 1 (by simp)
    have r2 := hW 2 (by simp)
    have r3 := hW 3 (by simp)
    have r4 := hW 4 (by simp)
    have r5 := hW 5 (by simp)
    have r6 := hW 6 (by simp)
    have r7 := hW 7 (by simp)
    have r8 := hW 8 (by simp)
    have r9 := hW 9 (by simp)
    clear hW
    simp only [List.getElem_cons_zero, List.getElem_cons_succ] at r0 r1 r2 r3 r4 r5 r6 r7 r8 r9
    simp [results, Tryd.results38, go_sem, r0, r1, r2, r3, r4, r5, r6, r7, r8, r9]
  · intro j hj
    rw [World.cell?_setCells_out _ _ _ _ _ (fun e _ => absurd e (by show ¬ w.heap.size + 1 = w.heap.size; omega))]
    refine lt10 (p := fun j => ((w2.setCell ⟨w1.heap.size, 6, none⟩ (.slice A' n.a.cells.length c')).cell? ⟨w.heap.size + 1, j, none⟩).isSome = true) ?_ j hj
    simp [go_sem, hcw2, hcw1, g1, g3, g5]
  · have hx : w1.heap.size + 1 ≤ w1.heap.size + 1 := Nat.le_refl _
    refine own_more (base := w1.heap.size + 1) (own_setCells (by omega) _ _ _ (own_setCells (by omega) _ _ _ (ownsRow_setCell_below ?_ (by show w1.heap.size < w1.heap.size + 1; omega) _))) (by omega)
    have := HO2.out
    simpa using this
  · exact own_more (base := w.heap.size + 2) (own_setCells (by omega) _ _ _ (own_setCells (by omega) _ _ _ HO3.out)) (by omega)
  · exact below_setCells (by omega) _ _ _ _ (below_setCells (by omega) _ _ _ _ (HBw2.out.setCell (by show w.heap.size ≤ w1.heap.size; omega) _))
end Go.Proofs.YtohfofecbdfkgaaDoor

/-
  The walk of Post, of the specification.
-/
namespace Go.Proofs.YtohfofecbdfkgaaDoor
open Go.RowKit Al
attribute [local go_sem ↓] Go.wp_at_zero Go.wp_at_succ

theorem rnotice_is (ks : List (Int × Int)) (q : Int) (K : Option Addr) (kc : Nat) (n : Ntc) (A : Option Addr) (c : Nat) (S : Option Addr) (sc : Nat) (v : Int) (w : World) (hv : noticeE ks q n = v) (hr : Rin w ks K kc) (ho : rollOk ks q = true) (hn : NIn w n A c S sc) :
    Calls Tryd.prog 47 #[rollV ks K kc q, n.val A c S sc] w fun e w' => e = .returned (.int .i64 v) ∧ Below w.heap.size w w' := hv ▸ rnotice_ ks q K kc n A c S sc w hr ho hn

set_option maxRecDepth 100000 in
set_option maxHeartbeats 4000000 in
theorem rpost_e (R : Nat → Prop) (y : Nat) (ks : List (Int × Int)) (q : Int) (K : Option Addr) (kc : Nat) (L : List It) (N : Option Addr) (nc : Nat) (n : Ntc) (A : Option Addr) (c : Nat) (S : Option Addr) (sc : Nat) (w : World) (h : SpAt w R y ks q K kc L N nc) (hn : NIn w n A c S sc) (he : (noticeE ks q n == 0) = false) :
    Calls Tryd.prog 39 #[.pointer (some ⟨y, 0, none⟩), n.val A c S sc] w fun e w' => e = .returned (.int .i64 (noticeE ks q n)) ∧ Below w.heap.size w w' := by
  have HH := Lib.hid h
  have HN := Lib.hid hn
  obtain ⟨v, hv⟩ : ∃ v, v = noticeE ks q n := ⟨_, rfl⟩
  rw [← hv] at he ⊢
  have HV := Lib.hid hv
  have he' : (v != 0) = true := by rw [bne, he]; rfl
  have c0 := h.c0
  have c1 := h.c1
  have c2 := h.c2
  have hlt := h.lt
  have hlt2 : y < w.heap.size + 1 := by omega
  clear h hn hv
  go_enter Tryd.func39, Tryd.ntmps39
  go_wp2_with fail
  refine wp_region_bw2 (by kernel_rfl) (by kernel_rfl) (fun hbwc => ?_)
  repeat (go_big_quiet_step ((go_at_call 47; exact bwCall (rnotice_is ks q K kc n A c S sc v _ HV.out.symm (Rin.below (Rin.below HH.out.keys.sl (by (repeat (first | exact Below.refl _ _ | assumption | refine below_drewN ?_ _ | refine Below.drew ?_ | refine Below.setCell ?_ (by first | omega | (simp; done) | (simp; omega)) _ | refine Below.alloc ?_ (by first | omega | (simp; done) | (simp; omega)) _)))) (BW.below _)) HH.out.rok (NIn.below (HN.out.below (by (repeat (first | exact Below.refl _ _ | assumption | refine below_drewN ?_ _ | refine Below.drew ?_ | refine Below.setCell ?_ (by first | omega | (simp; done) | (simp; omega)) _ | refine Below.alloc ?_ (by first | omega | (simp; done) | (simp; omega)) _)))) (BW.below _))))))
  refine wpQuiet_nil ?_
  clear hbwc
  intro w1 hb
  obtain ⟨hcw1, hfw1⟩ := bcell hb
  have Hw1 := Lib.hid ((show Below w.heap.size w _ from (by repeat (first | exact Below.refl _ _ | assumption | refine below_drewN ?_ _ | refine Below.drew ?_ | refine Below.setCell ?_ (by first | omega | (simp; done) | (simp; omega)) _ | refine Below.alloc ?_ (by first | omega | (simp; done) | (simp; omega)) _))).trans (hb.mono (by simp)))
  clear hb
  go_wp2_with fail
  go_ret
  exact ⟨rfl, Hw1.out⟩

/-- What Post of the specification does of a valid notice. -/
def SpcT (R : Nat → Prop) (y : Nat) (ks : List (Int × Int)) (q : Int) (K : Option Addr) (kc : Nat) (L : List It) (N : Option Addr) (n : Ntc) (x : Alr) (bf : Int) (w : World) (e : Ending) (w' : World) : Prop :=
  e = .returned (.int .i64 (chainX x bf L.length n)) ∧ (¬ chainX x bf L.length n = 0 → Below w.heap.size w w') ∧ (chainX x bf L.length n = 0 → ∃ R' it N' nc', it.n = n ∧ SpAt w' R' y ks q K kc (L ++ [it]) N' nc' ∧ Kp (SpF R y N) w w' ∧ ∀ i, SpF R' y N' i → SpF R y N i ∨ w.heap.size ≤ i)
theorem sp_post {R : Nat → Prop} {y : Nat} {ks : List (Int × Int)} {q : Int} {K : Option Addr} {kc : Nat} {L : List It} {N : Option Addr} {nc : Nat} {n : Ntc} {w w2 w5 : World} {A' : Option Addr} {c' : Nat} {S' : Option Addr} {sc' g cap : Nat}
    (h : SpAt w R y ks q K kc L N nc) (hok : okA n.a = true) (hsg : n.sg.length ≤ 1048576) (hlen : ¬ 256 ≤ L.length) (h2 : Below w.heap.size w w2) (hap : Ap y L N n w2 w5 A' c' S' sc' g cap) :
    ∃ R' it N' nc', it.n = n ∧ SpAt w5 R' y ks q K kc (L ++ [it]) N' nc' ∧ Kp (SpF R y N) w w5 ∧ ∀ i, SpF R' y N' i → SpF R y N i ∨ w.heap.size ≤ i := by
  have s2 := h2.size
  have s5 := hap.kp.size
  have hNlt : ∀ a, N = some a → a.block < w.heap.size := fun a ha => (own_lt h.row (g := a.block) (by rw [ha]; rfl)).2
  have hyl := h.lt
  have K5 : Kp (fun i => i = y ∨ ∃ a, N = some a ∧ a.block = i) w w5 := (Kp.of_below h2).trans hap.kp (fun i _ hi => hi)
  have hRF : ∀ i, R i → ¬ (i = y ∨ ∃ a, N = some a ∧ a.block = i) := by
    rintro i hi (rfl | ⟨a, ha, rfl⟩)
    · exact h.ry hi
    · exact (h.ny a ha).1 hi
  have hgR : ¬ R g := by
    intro hr
    rcases hap.gg with ⟨a, ha, rfl⟩ | hg
    · exact (h.ny a ha).1 hr
    · have := h.rl g hr; omega
  have hgy : g ≠ y := by
    rcases hap.gg with ⟨a, ha, rfl⟩ | hg
    · exact (h.ny a ha).2
    · omega
  have c2y : ∀ j, w2.cell? ⟨y, j, none⟩ = w.cell? ⟨y, j, none⟩ := fun j => h2.cell (p := ⟨y, j, none⟩) hyl
  have fy : w5.frozen? ⟨y, 2, none⟩ = false := by
    rw [hap.fz, h2.frozen (p := ⟨y, 2, none⟩) hyl]
    exact h.f2
  let R' : Nat → Prop := fun i => R i ∨ (w.heap.size ≤ i ∧ i < w5.heap.size ∧ i ≠ g)
  have hRR : ∀ i, R i → R' i := fun i hi => .inl hi
  have inR : ∀ {base e sz n' c : Nat} {A : Option Addr} {xs : List Value}, w5.ownsRow base e sz (.slice A n' c) n' xs → w.heap.size ≤ base → (∀ a, A = some a → a.block ≠ g) → SlR w5 R' sz A n' c xs := fun {_ _ _ _ _ _ _} hv hba hne =>
    ⟨Sl.of_own hv, fun _ a ha => .inr (by have := own_lt hv (g := a.block) (by rw [ha]; rfl); exact ⟨by omega, by omega, hne a ha⟩)⟩
  refine ⟨R', ⟨n, A', c', S', sc'⟩, some ⟨g, 0, none⟩, cap, rfl, ?_, K5.mono (fun i _ hi => .inr hi), ?_⟩
  · refine ⟨?_, ?_, ?_, fy, (h.keys.keep K5 hRF).mono hRR, ?_, ?_, h.rok, by simp; omega, ?_, ?_, by omega, ?_⟩
    · rw [hap.co 0 (by decide), c2y]; exact h.c0
    · rw [hap.co 1 (by decide), c2y]; exact h.c1
    · rw [hap.c2]; simp
    · rw [itCells_snoc, List.length_append]
      exact hap.row
    · intro x hx
      rcases List.mem_append.1 hx with hx | hx
      · exact ((h.its x hx).keep K5 hRF).mono hRR
      · obtain rfl := List.mem_singleton.1 hx
        exact ⟨hok, inR hap.own s2 hap.apart.1, inR hap.own2 s2 hap.apart.2, hsg⟩
    · rintro (hr | hr)
      · exact h.ry hr
      · omega
    · intro a ha
      cases ha
      refine ⟨?_, hgy⟩
      rintro (hr | hr)
      · exact hgR hr
      · exact hr.2.2 rfl
    · rintro i (hi | hi)
      · have := h.rl i hi; omega
      · exact hi.2.1
  · rintro i (hi | rfl | ⟨a, ha, rfl⟩)
    · rcases hi with hi | hi
      · exact .inl (.inl hi)
      · exact .inr hi.1
    · exact .inl (.inr (.inl rfl))
    · cases ha
      rcases hap.gg with ⟨a, ha, hab⟩ | hg
      · exact .inl (.inr (.inr ⟨a, ha, hab⟩))
      · exact .inr (by show w.heap.size ≤ g; omega)

set_option maxRecDepth 100000 in
set_option maxHeartbeats 4000000 in
theorem rpost_c (R : Nat → Prop) (y : Nat) (ks : List (Int × Int)) (q : Int) (K : Option Addr) (kc : Nat) (L : List It) (N : Option Addr) (nc : Nat) (n : Ntc) (A : Option Addr) (c : Nat) (S : Option Addr) (sc : Nat)
    (x : Alr) (XA : Option Addr) (xc : Nat) (lb : Bool) (bf : Int) (w : World) (h : SpAt w R y ks q K kc L N nc) (hn : NIn w n A c S sc) (he : noticeE ks q n = 0) (hls : LastSays y n.a.ev x XA xc lb w)
    (hx : lb = false → bf = 0) (hy : lb = true → okA x = true ∧ AIn w x XA xc ∧ digA x = bf) (hxv : 0 ≤ x.ver ∧ x.ver ≤ 2147483647) (hok : okA n.a = true) (hsg : n.sg.length ≤ 1048576) :
    Calls Tryd.prog 39 #[.pointer (some ⟨y, 0, none⟩), n.val A c S sc] w (SpcT R y ks q K kc L N n x bf w) := by
  have HH := Lib.hid h
  have HN := Lib.hid hn
  have HV := Lib.hid he
  have HLS := Lib.hid hls
  have HX := Lib.hid hx
  have HY := Lib.hid hy
  have c0 := h.c0
  have c1 := h.c1
  have c2 := h.c2
  have hlt := h.lt
  have hlt2 : y < w.heap.size + 1 := by omega
  clear h hn he hls hx hy
  go_enter Tryd.func39, Tryd.ntmps39
  go_wp2_with fail
  refine wp_region_bw2 (by kernel_rfl) (by kernel_rfl) (fun hbwc => ?_)
  repeat (go_big_quiet_step ((go_at_call 47; exact bwCall (rnotice_is ks q K kc n A c S sc 0 _ HV.out (Rin.below (Rin.below HH.out.keys.sl (by (repeat (first | exact Below.refl _ _ | assumption | refine below_drewN ?_ _ | refine Below.drew ?_ | refine Below.setCell ?_ (by first | omega | (simp; done) | (simp; omega)) _ | refine Below.alloc ?_ (by first | omega | (simp; done) | (simp; omega)) _)))) (BW.below _)) HH.out.rok (NIn.below (HN.out.below (by (repeat (first | exact Below.refl _ _ | assumption | refine below_drewN ?_ _ | refine Below.drew ?_ | refine Below.setCell ?_ (by first | omega | (simp; done) | (simp; omega)) _ | refine Below.alloc ?_ (by first | omega | (simp; done) | (simp; omega)) _)))) (BW.below _))))))
  refine wpQuiet_nil ?_
  clear hbwc
  intro w0 hb
  obtain ⟨hcw0, hfw0⟩ := bcell hb
  have Hw0 := Lib.hid ((show Below w.heap.size w _ from (by repeat (first | exact Below.refl _ _ | assumption | refine below_drewN ?_ _ | refine Below.drew ?_ | refine Below.setCell ?_ (by first | omega | (simp; done) | (simp; omega)) _ | refine Below.alloc ?_ (by first | omega | (simp; done) | (simp; omega)) _))).trans (hb.mono (by simp)))
  have hz1 : w.heap.size < w0.heap.size := by have := hb.size; simp at this; omega
  have hz2 : y < w0.heap.size := by omega
  clear hb
  go_wp2_with fail
  refine (HLS.out _ (by repeat (first | exact Below.refl _ _ | exact (Hw0).out | refine below_drewN ?_ _ | refine Below.drew ?_ | refine Below.setCell ?_ (by first | omega | (simp; done) | (simp; omega)) _ | refine Below.alloc ?_ (by first | omega | (simp; done) | (simp; omega)) _))).mono ?_
  rintro e w1 ⟨rfl, hb⟩
  have hx1 : ∀ j, w1.cell? ⟨w.heap.size, j, none⟩ = w0.cell? ⟨w.heap.size, j, none⟩ := fun j => hb.cell (p := ⟨w.heap.size, j, none⟩) hz1
  obtain ⟨hcw1, hfw1⟩ := bcell hb
  have Hw1 := Lib.hid (Hw0.out.trans (hb.mono Hw0.out.size))
  have hz3 : w.heap.size < w1.heap.size := by have := hb.size; omega
  have hz3' : y < w1.heap.size := by omega
  clear hb hx1
  go_upto_if 26 with fail
  have hz4 : w.heap.size < w1.heap.size + 1 := by omega
  have hz5 : y < w1.heap.size + 1 := by omega
  have hz55 : w1.heap.size < w1.heap.size + 1 := by omega
  go_cut [8] (fun s8 wx => s8 = .int .i64 bf ∧ Below (w1.heap.size + 1) (w1.alloc (.cells (x.val XA xc).cells 29)) wx)
  case first =>
    cases lb with
    | false =>
      have HBF := Lib.hid (HX.out rfl)
      clear HX HY
      go_wp2_with fail
      go_meet
      case rel => exact ⟨by rw [HBF.out], Below.refl _ _⟩
    | true =>
      have HY1 := Lib.hid (HY.out rfl)
      clear HX HY
      go_wp2_with fail
      refine (rdigestA x XA xc _ HY1.out.1 (HY1.out.2.1.below (by repeat (first | exact Below.refl _ _ | exact (Hw1).out | refine below_drewN ?_ _ | refine Below.drew ?_ | refine Below.setCell ?_ (by first | omega | (simp; done) | (simp; omega)) _ | refine Below.alloc ?_ (by first | omega | (simp; done) | (simp; omega)) _)))).mono ?_
      rintro e w2 ⟨rfl, hb⟩
      have Hw2 := Lib.hid (hb.mono (show w1.heap.size + 1 ≤ _ by simp))
      clear hb
      go_wp2_with fail
      go_meet
      case rel => exact ⟨by rw [← HY1.out.2.2], Hw2.out⟩
  case rest =>
    rename World => w2
    obtain ⟨rfl, hbw⟩ := hcut
    obtain ⟨hcw2, hfw2⟩ := bcell hbw
    have HB2 : Hid (Below w.heap.size w w2) := (show Below w.heap.size w _ from (by repeat (first | exact Below.refl _ _ | exact (Hw1).out | refine below_drewN ?_ _ | refine Below.drew ?_ | refine Below.setCell ?_ (by first | omega | (simp; done) | (simp; omega)) _ | refine Below.alloc ?_ (by first | omega | (simp; done) | (simp; omega)) _))).trans (hbw.mono (by omega))
    have hz6 := hbw.size
    simp at hz6
    have hz7 : w.heap.size < w2.heap.size := by omega
    have hz8 : y < w2.heap.size := by omega
    have hz9 : w1.heap.size < w2.heap.size := by omega
    obtain ⟨hxv1, hxv2⟩ := hxv
    clear hbw
    cases hwd : x.wd with
    | true =>
      have HC := Lib.hid (chX_1 (bf := bf) (len := L.length) (n := n) hwd)
      go_wp2_with fail
      go_ret
      exact ⟨ret_int HC.out.symm, fun _ => HB2.out, fun h => absurd (HC.out.symm.trans h) (by decide)⟩
    | false =>
      by_cases hv : n.a.ver = x.ver + 1
      · by_cases hbf : n.a.before = bf
        · by_cases htm : n.a.tm < x.tm
          · have HC := Lib.hid (chX_4 (len := L.length) hwd hv hbf htm)
            have t1 : (n.a.ver != x.ver + 1) = false := by simp [hv]
            have t2 : (n.a.before != bf) = false := by simp [hbf]
            have t3 := decide_eq_true htm
            clear hv hbf htm
            go_wp2_with fail
            go_ret
            exact ⟨ret_int HC.out.symm, fun _ => HB2.out, fun h => absurd (HC.out.symm.trans h) (by decide)⟩
          · by_cases hlen : 256 ≤ L.length
            · have HC := Lib.hid (chX_5 hwd hv hbf htm hlen)
              have t1 : (n.a.ver != x.ver + 1) = false := by simp [hv]
              have t2 : (n.a.before != bf) = false := by simp [hbf]
              have t3 := decide_eq_false htm
              have t4 : decide ((256 : Int) ≤ (L.length : Int)) = true := decide_eq_true (by omega)
              clear hv hbf htm hlen
              go_wp2_with fail
              go_ret
              exact ⟨ret_int HC.out.symm, fun _ => HB2.out, fun h => absurd (HC.out.symm.trans h) (by decide)⟩
            · have HC := Lib.hid (chX_6 hwd hv hbf htm hlen)
              have t1 : (n.a.ver != x.ver + 1) = false := by simp [hv]
              have t2 : (n.a.before != bf) = false := by simp [hbf]
              have t3 := decide_eq_false htm
              have t4 : decide ((256 : Int) ≤ (L.length : Int)) = false := decide_eq_false (by omega)
              clear hv hbf htm
              go_wp2_with fail
              have hB2 := HB2.out
              have d2 : w2.cell? ⟨y, 2, none⟩ = some (.slice N L.length nc) := by rw [hcw2 _ _ hz5]; simp [go_sem, hcw1, hcw0, hz2, hz3', hlt, hlt2, c2]
              have e2 : w2.frozen? ⟨y, 2, none⟩ = false := by rw [hfw2 _ _ hz5]; simp [go_sem, hfw1, hfw0, hz2, hz3', hlt, hlt2, HH.out.f2]
              have ec : ∀ (j : Nat) (v : Value), (w.alloc (.cells (n.val A c S sc).cells 32)).cell? ⟨w.heap.size, j, none⟩ = some v → w2.cell? ⟨w.heap.size, j, none⟩ = some v := by
                intro j v hv
                rw [hcw2 _ _ hz4]
                simp [go_sem, hcw1, hcw0, hz1, hz3] at hv ⊢
                exact hv
              have f0 := ec 0 (.string n.a.ev) (by simp [go_sem])
              have f1 := ec 1 (.int .i64 n.a.ver) (by simp [go_sem])
              have f2 := ec 2 (.int .i64 n.a.tm) (by simp [go_sem])
              have f3 := ec 3 (.int .i64 n.a.n) (by simp [go_sem])
              have f4 := ec 4 (.int .i64 n.a.of) (by simp [go_sem])
              have f5 := ec 5 (.int .i64 n.a.grid) (by simp [go_sem])
              have f6 := ec 6 (.slice A n.a.cells.length c) (by simp [go_sem])
              have f7 := ec 7 (.bool n.a.wd) (by simp [go_sem])
              have f8 := ec 8 (.int .i64 n.a.before) (by simp [go_sem])
              have f9 := ec 9 (.slice S n.sg.length sc) (by simp [go_sem])
              clear ec
              have hne : some y ≠ (Value.slice N L.length nc).ownBlock := by
                cases hN : N with
                | none => intro f; cases f
                | some a => intro f; exact (HH.out.ny a hN).2 (Option.some.inj f).symm
              have HNB : Hid (∀ a, N = some a → a.block ≠ y ∧ a.block < w2.heap.size) := fun a ha => ⟨(HH.out.ny a ha).2, by have := (own_lt HH.out.row (g := a.block) (by rw [ha]; rfl)).2; omega⟩
              have hcl := okA_short hok
              have hsl : n.sg.length * 16 ≤ 140737488355328 := by omega
              obtain ⟨i0, hi, hi0, hi1, hi2⟩ := info_parts infoNtc
              go_region_law (first
                | ((go_simp; go_at_call 38; refine (OwnNotice_ n A c S sc _ (HN.out.below (by (repeat (first | exact Below.refl _ _ | assumption | refine below_drewN ?_ _ | refine Below.drew ?_ | refine Below.setCell ?_ (by first | omega | (simp; done) | (simp; omega)) _ | refine Below.alloc ?_ (by first | omega | (simp; done) | (simp; omega)) _)))) hcl hsl).mono ?_; rintro e w3 ⟨A', c', S', sc', rfl, hA3, hS3, hbw3⟩; obtain ⟨hcw3, hfw3⟩ := bcell hbw3; have hB3 : Below w.heap.size w w3 := Below.trans (by (repeat (first | exact Below.refl _ _ | assumption | refine below_drewN ?_ _ | refine Below.drew ?_ | refine Below.setCell ?_ (by first | omega | (simp; done) | (simp; omega)) _ | refine Below.alloc ?_ (by first | omega | (simp; done) | (simp; omega)) _))) (hbw3.mono (by first | omega | (simp; omega))); have hz10 : w2.heap.size ≤ w3.heap.size := (by have := hbw3.size; (try simp at this); omega); have hz11 : w.heap.size < w3.heap.size := (by omega); have hz12 : y < w3.heap.size := (by omega); have k4 : w3.cell? ⟨y, 2, none⟩ = some (.slice N L.length nc) := (by rw [hcw3 _ _ (by first | omega | (simp; omega))]; exact d2); have k5 : w3.frozen? ⟨y, 2, none⟩ = false := (by rw [hfw3 _ _ (by first | omega | (simp; omega))]; exact e2)))
                | ((refine step_append_lies _ rfl (.tmp 59) (.tmp 62) 66 rfl 0 32 i0 (.agg #[.string ⟨#[]⟩, .int .i64 0, .int .i64 0, .int .i64 0, .int .i64 0, .int .i64 0, .slice none 0 0, .bool false, .int .i64 0, .slice none 0 0]) 10 120 Tryd.underlying66 hi hi0 hi1 hi2 rfl (by decide) (.slice N L.length nc) L.length (itCells L) (by rfl) (own_keep (F := fun _ => False) HH.out.row (Kp.of_below (by (repeat (first | exact Below.refl _ _ | assumption | refine below_drewN ?_ _ | refine Below.drew ?_ | refine Below.setCell ?_ (by first | omega | (simp; done) | (simp; omega)) _ | refine Below.alloc ?_ (by first | omega | (simp; done) | (simp; omega)) _)))) (fun _ _ f => f)) _ 1 1 (ntL n.a A' c' S' n.sg.length sc') (by rfl) rfl (World.news_of_block (heap_alloc_new w3 _)) (ntL_one _ _ _ _ _ _) (by omega) (by unfold maxLen; omega) (by omega) (Nat.zero_le _) (w3.heap.size + 1) (by simp) ?_; intro g cap w5 hown5 hg5 hat5 hlt5; have k2 : w5.cell? ⟨y, 2, none⟩ = some (.slice N L.length nc) := (by rw [hg5.cell_far _ (by simp; omega) hne]; exact (((Below.refl w3.heap.size w3).alloc (Nat.le_refl _) _).cell (p := ⟨y, 2, none⟩) hz12).trans k4); have k3 : w5.frozen? ⟨y, 2, none⟩ = false := (by rw [hg5.frozen_far _ (by simp; omega) hne]; exact (((Below.refl w3.heap.size w3).alloc (Nat.le_refl _) _).frozen (p := ⟨y, 2, none⟩) hz12).trans k5))))
              all_goals
                go_wp2_with fail
                go_ret
                exact ⟨ret_int HC.out.symm, fun f => absurd HC.out f, fun _ => sp_post HH.out hok hsg hlen HB2.out (ap_mk HNB.out hz8 (Below.trans (by (repeat (first | exact Below.refl _ _ | assumption | refine below_drewN ?_ _ | refine Below.drew ?_ | refine Below.setCell ?_ (by first | omega | (simp; done) | (simp; omega)) _ | refine Below.alloc ?_ (by first | omega | (simp; done) | (simp; omega)) _))) hbw3) hA3 hS3 hown5 hg5 hat5 hlt5 k2 e2 k3)⟩
        · have HC := Lib.hid (chX_3 (len := L.length) hwd hv hbf)
          have t1 : (n.a.ver != x.ver + 1) = false := by simp [hv]
          have t2 : (n.a.before != bf) = true := by simp [hbf]
          clear hv hbf
          go_wp2_with fail
          go_ret
          exact ⟨ret_int HC.out.symm, fun _ => HB2.out, fun h => absurd (HC.out.symm.trans h) (by decide)⟩
      · have HC := Lib.hid (chX_2 (bf := bf) (len := L.length) hwd hv)
        have t1 : (n.a.ver != x.ver + 1) = true := by simp [hv]
        clear hv
        go_wp2_with fail
        go_ret
        exact ⟨ret_int HC.out.symm, fun _ => HB2.out, fun h => absurd (HC.out.symm.trans h) (by decide)⟩

/-- What Post of the specification does. -/
def SPostT (S : Nat → Prop) (y : Nat) (ks : List (Int × Int)) (q : Int) (ns : List Ntc) (n : Ntc) (w : World) (e : Ending) (w' : World) : Prop :=
  e = .returned (.int .i64 (postE ks q ns n)) ∧ Sp w' (fun i => S i ∨ w.heap.size ≤ i) y ks q (postN ks q ns n) ∧ Kp S w w'
theorem spost_ends {S : Nat → Prop} {y : Nat} {ks : List (Int × Int)} {q : Int} {ns : List Ntc} {n : Ntc} {w : World} {R : Nat → Prop} {K : Option Addr} {kc : Nat} {L : List It} {N : Option Addr} {nc : Nat} {x : Alr} {bf : Int}
    (h : SpAt w R y ks q K kc L N nc) (hns : L.map (·.n) = ns) (hS : ∀ i, SpF R y N i → S i) (hE : noticeE ks q n = 0) (hc : chainE ns n = chainX x bf L.length n) {e : Ending} {w' : World} (hp : SpcT R y ks q K kc L N n x bf w e w') : SPostT S y ks q ns n w e w' := by
  obtain ⟨h1, h2, h3⟩ := hp
  unfold SPostT postN
  rw [postE_t hE, hc]
  by_cases hz : chainX x bf L.length n = 0
  · obtain ⟨R', it, N', nc', hit, hb, hk, hf⟩ := h3 hz
    refine ⟨h1, ?_, hk.mono (fun i _ hi => hS i hi)⟩
    rw [if_pos hz]
    refine ⟨R', K, kc, L ++ [it], N', nc', hb, by rw [List.map_append, hns, List.map_cons, hit]; rfl, fun i hi => ?_⟩
    rcases hf i hi with hf | hf
    · exact .inl (hS i hf)
    · exact .inr hf
  · refine ⟨h1, ?_, Kp.of_below (h2 hz)⟩
    rw [if_neg hz]
    exact ⟨R, K, kc, L, N, nc, h.keep (F := fun _ => False) (Kp.of_below (h2 hz)) (fun _ _ f => f), hns, fun i hi => .inl (hS i hi)⟩
theorem rPost_ (S : Nat → Prop) (y : Nat) (ks : List (Int × Int)) (q : Int) (ns : List Ntc) (n : Ntc) (A : Option Addr) (c : Nat) (Z : Option Addr) (zc : Nat) (w : World) (h : Sp w S y ks q ns) (hn : NIn w n A c Z zc) :
    Calls Tryd.prog 39 #[.pointer (some ⟨y, 0, none⟩), n.val A c Z zc] w (SPostT S y ks q ns n w) := by
  have h0 := h
  obtain ⟨R, K, kc, L, N, nc, hb, hns, hS⟩ := h
  have hlen : ns.length = L.length := by rw [← hns, List.length_map]
  by_cases hE : noticeE ks q n = 0
  · obtain ⟨hok, hsl⟩ := noticeE_zero hE
    have hks := rollOk_len hb.rok
    cases hl : lastOf ns n.a.ev.data.toList with
    | none =>
      obtain ⟨XA, xc, hin, hls⟩ := last_is S y ks q ns n.a.ev Al.zero false w (by unfold lastR; rw [hl]) h0
      refine (rpost_c R y ks q K kc L N nc n A c Z zc Al.zero XA xc false 0 w hb hn hE hls (fun _ => rfl) (fun h => by cases h) zero_ver hok (by omega)).mono fun e w' hp => ?_
      exact spost_ends hb hns hS hE (by rw [chain_none hl, hlen]) hp
    | some x =>
      obtain ⟨XA, xc, hin, hls⟩ := last_is S y ks q ns n.a.ev x true w (by unfold lastR; rw [hl]) h0
      have hxk : okA x = true := by
        have : lastOf (L.map (·.n)) n.a.ev.data.toList = some x := by rw [hns]; exact hl
        rw [lastOf_hist] at this
        have hm := List.mem_of_getLast? this
        unfold hist at hm
        have hm := (List.mem_filter.1 hm).1
        rw [List.map_map] at hm
        obtain ⟨it, hit, rfl⟩ := List.mem_map.1 hm
        exact (hb.its it hit).ok
      have hg := okA_good hxk
      refine (rpost_c R y ks q K kc L N nc n A c Z zc x XA xc true (digA x) w hb hn hE hls (fun h => by cases h) (fun _ => ⟨hxk, hin, rfl⟩) hg.ver hok (by omega)).mono fun e w' hp => ?_
      exact spost_ends hb hns hS hE (by rw [chain_some hl, hlen]) hp
  · have he : (noticeE ks q n == 0) = false := by simpa using hE
    refine (rpost_e R y ks q K kc L N nc n A c Z zc w hb hn he).mono fun e w' hp => ?_
    obtain ⟨h1, h2⟩ := hp
    unfold SPostT postN
    rw [postE_f hE, if_neg hE]
    exact ⟨h1, ⟨R, K, kc, L, N, nc, hb.keep (F := fun _ => False) (Kp.of_below h2) (fun _ _ f => f), hns, fun i hi => .inl (hS i hi)⟩, Kp.of_below h2⟩
end Go.Proofs.YtohfofecbdfkgaaDoor

/-
  The walk of Notices: all notices of a board, in memory of the call's own.
-/
namespace Go.Proofs.YtohfofecbdfkgaaDoor
open Go.RowKit Al

/-- Cells that lie from base on, apart from the row's own block. -/
abbrev Off (base : Nat) (P : Option Addr) (i : Nat) : Prop := base ≤ i ∧ ∀ p, P = some p → i ≠ p.block
theorem off_keep {wr w4 w5 : World} {base sz n c : Nat} {A P : Option Addr} {xs : List Value} {m pc g : Nat} (h : SlR wr (Off base P) sz A n c xs) (h4 : Below wr.heap.size wr w4) (hg : w4.grownBy w5 (Value.slice P m pc).ownBlock) (hat : (Value.slice P m pc).ownBlock = some g ∨ g = w4.heap.size) :
    SlR w5 (Off base (some ⟨g, 0, none⟩)) sz A n c xs := by
  have K5 : Kp (fun i => ∃ p, P = some p ∧ p.block = i) wr w5 := (Kp.of_below h4).grown hg (fun k hk => .inl (own_none.1 hk))
  have hk := h.keep K5 (fun i hi f => by
    obtain ⟨p, hp, he⟩ := f
    exact hi.2 p hp he.symm)
  refine ⟨hk.sl, fun hn ad ea => ⟨(hk.at_ hn ad ea).1, fun p hp => ?_⟩⟩
  cases hp
  show ad.block ≠ g
  obtain ⟨b, off, e, hb, _⟩ := h.sl.at_ hn
  rw [ea] at e
  cases e
  show b ≠ g
  have s4 := h4.size
  rcases hat with h1 | h1
  · obtain ⟨p, hp, he⟩ := own_none.1 h1
    have := (h.at_ hn _ ea).2 p hp
    intro e2
    exact this (e2.trans he.symm)
  · omega
theorem off_new {wr w3 w4 w5 : World} {base e sz n c : Nat} {A P : Option Addr} {xs : List Value} {m pc g : Nat} (own : w3.ownsRow wr.heap.size e sz (.slice A n c) n xs) (hbs : base ≤ wr.heap.size) (h3 : Below wr.heap.size wr w3) (h4 : Below w3.heap.size w3 w4) (hP : ∀ p, P = some p → p.block < wr.heap.size)
    (hg : w4.grownBy w5 (Value.slice P m pc).ownBlock) (hat : (Value.slice P m pc).ownBlock = some g ∨ g = w4.heap.size) : SlR w5 (Off base (some ⟨g, 0, none⟩)) sz A n c xs := by
  have s3 := h3.size
  have s4 := h4.size
  have o4 := own_below own (Nat.le_refl _) h4
  have K4 : Kp (fun i => ∃ p, P = some p ∧ p.block = i) w4 w5 := (Kp.refl _ _).grown hg (fun k hk => .inl (own_none.1 hk))
  have o5 := own_keep o4 K4 (fun i hi f => by
    obtain ⟨p, hp, he⟩ := f
    have := hP p hp
    have := (own_lt own hi).1
    omega)
  refine ⟨Sl.of_own o5, fun hn ad ea => ⟨?_, fun p hp => ?_⟩⟩
  · have := (own_lt own (g := ad.block) (by rw [ea]; rfl)).1
    show base ≤ ad.block
    omega
  · cases hp
    show ad.block ≠ g
    have := own_lt own (g := ad.block) (by rw [ea]; rfl)
    rcases hat with h1 | h1
    · obtain ⟨p, hp, he⟩ := own_none.1 h1
      have := hP p hp
      omega
    · omega
/-- A growing row of notices of the call's own, each with memory of the call's own. -/
structure Hn (base : Nat) (w0 : World) (M : List It) (P : Option Addr) (pc : Nat) (wr : World) : Prop where
  row : wr.ownsRow base 32 10 (.slice P M.length pc) M.length (itCells M)
  its : ∀ x ∈ M, SlR wr (Off base P) 1 x.A x.n.a.cells.length x.c (ints x.n.a.cells) ∧ SlR wr (Off base P) 2 x.S x.n.sg.length x.sc (keyCells x.n.sg)
  bel : Below base w0 wr
theorem Hn.start {base : Nat} {w0 wr : World} (h : Below base w0 wr) : Hn base w0 [] none 0 wr := ⟨World.ownsRow_nil _ _ _ _, by simp, h⟩
theorem Hn.step {base : Nat} {w0 wr w3 w4 w5 : World} {M : List It} {P : Option Addr} {pc : Nat} {n : Ntc} {A : Option Addr} {c : Nat} {S : Option Addr} {sc g cap : Nat} (h : Hn base w0 M P pc wr) (hbs : base ≤ wr.heap.size) (h3 : Below wr.heap.size wr w3) (own : ARow w3 wr.heap.size n.a A c)
    (own2 : w3.ownsRow wr.heap.size 115 2 (.slice S n.sg.length sc) n.sg.length (keyCells n.sg)) (h4 : Below w3.heap.size w3 w4)
    (hown : w5.ownsRow base 32 10 (.slice (some ⟨g, 0, none⟩) (M.length + 1) cap) (M.length + 1) (itCells M ++ ntL n.a A c S n.sg.length sc)) (hg : w4.grownBy w5 (Value.slice P M.length pc).ownBlock) (hat : (Value.slice P M.length pc).ownBlock = some g ∨ g = w4.heap.size) :
    Hn base w0 (M ++ [⟨n, A, c, S, sc⟩]) (some ⟨g, 0, none⟩) cap w5 := by
  have s3 := h3.size
  have B4 : Below wr.heap.size wr w4 := h3.trans (h4.mono s3)
  have hPlt : ∀ p, P = some p → base ≤ p.block ∧ p.block < wr.heap.size := fun p hp => own_lt h.row (g := p.block) (by rw [hp]; rfl)
  refine ⟨?_, fun x hx => ?_, ?_⟩
  · rw [List.length_append, itCells_snoc]
    exact hown
  · rcases List.mem_append.1 hx with hx | hx
    · exact ⟨off_keep (h.its x hx).1 B4 hg hat, off_keep (h.its x hx).2 B4 hg hat⟩
    · obtain rfl := List.mem_singleton.1 hx
      exact ⟨off_new own hbs h3 h4 (fun p hp => (hPlt p hp).2) hg hat, off_new own2 hbs h3 h4 (fun p hp => (hPlt p hp).2) hg hat⟩
  · have K5 : Kp (fun i => ∃ p, P = some p ∧ p.block = i) wr w5 := (Kp.of_below B4).grown hg (fun k hk => .inl (own_none.1 hk))
    exact h.bel.trans (K5.below hbs (fun i ⟨p, hp, he⟩ => by have := (hPlt p hp).1; omega))
/-- Notices handed back in memory of the call's own. -/
def OwnNs (base : Nat) (ns : List Ntc) (w : World) (e : Ending) (w' : World) : Prop :=
  ∃ (L : List It) (P : Option Addr) (pc : Nat), L.map (·.n) = ns ∧ e = .returned (.slice P L.length pc) ∧ w'.ownsRow base 32 10 (.slice P L.length pc) L.length (itCells L) ∧ (∀ x ∈ L, SlR w' (fun i => base ≤ i) 1 x.A x.n.a.cells.length x.c (ints x.n.a.cells) ∧ SlR w' (fun i => base ≤ i) 2 x.S x.n.sg.length x.sc (keyCells x.n.sg)) ∧ Below base w w'
def NsRel (w : World) (L : List It) (o i : Value) (wr : World) : Prop :=
  ∃ (k : Nat) (M : List It) (P : Option Addr) (pc : Nat), k ≤ L.length ∧ Hid (M.length = k) ∧ Hid (M.map (·.n) = (L.take k).map (·.n)) ∧ o = .slice P M.length pc ∧ i = .int .i64 k ∧ Hn w.heap.size w M P pc wr
theorem ns_next {L M : List It} {k : Nat} {A : Option Addr} {c : Nat} {S : Option Addr} {sc : Nat} (hk : k < L.length) (h : M.map (·.n) = (L.take k).map (·.n)) : (M ++ [(⟨L[k].n, A, c, S, sc⟩ : It)]).map (·.n) = (L.take (k + 1)).map (·.n) := by
  rw [List.take_succ_eq_append_getElem hk, List.map_append, List.map_append, h]
  rfl
set_option maxRecDepth 100000 in
theorem notices_nil (w : World) : Calls Tryd.prog 36 #[.pointer none] w fun e w' => e = .returned (.slice none 0 0) ∧ Below w.heap.size w w' := by
  go_enter Tryd.func36, Tryd.ntmps36
  go_wp2_with (go_at_call 70; refine (none_nil _).mono ?_; rintro e w' ⟨rfl, rfl⟩)
  go_ret
  exact ⟨rfl, (by repeat (first | exact Below.refl _ _ | assumption | refine below_drewN ?_ _ | refine Below.drew ?_ | refine Below.setCell ?_ (by first | omega | (simp; done) | (simp; omega)) _ | refine Below.alloc ?_ (by first | omega | (simp; done) | (simp; omega)) _))⟩
set_option maxRecDepth 100000 in
set_option maxHeartbeats 4000000 in
theorem Notices_ (T : Nat → Prop) (b : Nat) (ks : List (Int × Int)) (q : Int) (ns : List Ntc) (w : World) (h : Bd w T b ks q ns) :
    Calls Tryd.prog 36 #[.pointer (some ⟨b, 0, none⟩)] w (OwnNs w.heap.size ns w) := by
  obtain ⟨R, K, kc, L, N, nc, mb, G, h, hns, _⟩ := h
  obtain ⟨i0, hi, hz0, hz1, hz2⟩ := info_parts infoNtc
  have c2 := h.c2
  have c3 := h.c3
  have hlt := h.lt.1
  have hmx := h.max
  have HNS := Lib.hid hns
  have HI := Lib.hid h.its
  have HO := Lib.hid (Sl.of_own h.row)
  clear h hns
  go_enter Tryd.func36, Tryd.ntmps36
  go_wp2_with (go_at_call 70; refine (none_ b mb _ (by simp [c3])).mono ?_; rintro e w' ⟨rfl, rfl⟩)
  go_loopw [3, 13] (fun o i wr => NsRel w L o i wr) (fun _ i _ => L.length - (intOf i).toNat)
  case atStart => exact ⟨0, [], none, 0, Nat.zero_le _, rfl, rfl, rfl, rfl, Hn.start (Below.refl _ _)⟩
  case round =>
    obtain ⟨k, M, P, pc, hk, hMk, hM, rfl, rfl, hs⟩ := hrel
    have HS := Lib.hid hs
    have HB := Lib.hid hs.bel
    have hsz := hs.bel.size
    clear hs
    by_cases hlt3 : k < L.length
    · obtain ⟨fb, off, rfl, hfb, y0, y1, y2, y3, y4, y5, y6, y7, y8, y9⟩ := (HO.out.below HB.out).it_at hlt3
      have i0' : (0 : Int) ≤ (k : Int) := by omega
      have i1' : (k : Int) < (L.length : Int) := by omega
      have hb2 : fb < wr.heap.size := by omega
      have hit := HI.out L[k] (List.getElem_mem hlt3)
      have HA := Lib.hid (show NIn wr L[k].n L[k].A L[k].c L[k].S L[k].sc from ⟨⟨okA_ev hit.ok, (hit.cells.keep (F := fun _ => False) (Kp.of_below HB.out) (fun _ _ f => f)).sl⟩, (hit.sigs.keep (F := fun _ => False) (Kp.of_below HB.out) (fun _ _ f => f)).sl⟩)
      have hsh := okA_short hit.ok
      have hsh2 : L[k].n.sg.length * 16 ≤ 140737488355328 := by have := hit.few; omega
      have HX := Lib.hid (fun (A : Option Addr) (c : Nat) (S : Option Addr) (sc : Nat) => ns_next (A := A) (c := c) (S := S) (sc := sc) hlt3 hM.out)
      clear hit
      obtain ⟨x, hx⟩ : ∃ x, x = L[k] := ⟨_, rfl⟩
      rw [← hx] at y0 y1 y2 y3 y4 y5 y6 y7 y8 y9 HA hsh hsh2 HX
      clear hx
      have hml : M.length ≤ 256 := by have := hMk.out; omega
      go_wp2_with fail
      refine (notice_ x.n x.A x.c x.S x.sc _ (HA.out.below (by (repeat (first | exact Below.refl _ _ | assumption | refine below_drewN ?_ _ | refine Below.drew ?_ | refine Below.setCell ?_ (by first | omega | (simp; done) | (simp; omega)) _ | refine Below.alloc ?_ (by first | omega | (simp; done) | (simp; omega)) _)))) hsh hsh2).mono ?_
      rintro e w3 ⟨A', c', S', sc', rfl, hown3, hown4, hb3⟩
      have HO3 := Lib.hid (own_more (base' := wr.heap.size) hown3 (by simp))
      have HO4 := Lib.hid (own_more (base' := wr.heap.size) hown4 (by simp))
      have HB3 := Lib.hid ((show Below wr.heap.size wr _ from (by (repeat (first | exact Below.refl _ _ | assumption | refine below_drewN ?_ _ | refine Below.drew ?_ | refine Below.setCell ?_ (by first | omega | (simp; done) | (simp; omega)) _ | refine Below.alloc ?_ (by first | omega | (simp; done) | (simp; omega)) _)))).trans (hb3.mono (by first | omega | (simp; done) | (simp; omega))))
      have hz3 := hb3.size
      simp at hz3
      have l0 : wr.heap.size < w3.heap.size := by omega
      obtain ⟨hcw3, hfw3⟩ := bcell hb3
      clear hb3 hown3 hown4
      go_wp2_with (at_builtin; refine wpList_append_lies _ rfl _ _ 66 rfl w.heap.size 32 i0 (.agg #[.string ⟨#[]⟩, .int .i64 0, .int .i64 0, .int .i64 0, .int .i64 0, .int .i64 0, .slice none 0 0, .bool false, .int .i64 0, .slice none 0 0]) 10 120 Tryd.underlying66 hi hz0 hz1 hz2 rfl (by decide) (.slice P M.length pc) M.length (itCells M) rfl (own_below HS.out.row (Nat.le_refl _) (by repeat (first | exact Below.refl _ _ | exact (HB3).out | refine below_drewN ?_ _ | refine Below.drew ?_ | refine Below.setCell ?_ (by first | omega | (simp; done) | (simp; omega)) _ | refine Below.alloc ?_ (by first | omega | (simp; done) | (simp; omega)) _))) _ 1 1 (ntL x.n.a A' c' S' x.n.sg.length sc') rfl rfl (World.news_of_block (heap_alloc_new w3 _)) (ntL_one _ _ _ _ _ _) (by decide) (by unfold maxLen; omega) (by omega) (by simp; omega) _ rfl ?_; intro g5 cap w5 hown5 hg5 hat5 hlt5)
      go_roundw
      case rel => exact ⟨k + 1, M ++ [⟨x.n, A', c', S', sc'⟩], some ⟨g5, 0, none⟩, cap, by omega, (by show _ = _; rw [List.length_append, hMk.out]; rfl), Lib.hid (HX.out A' c' S' sc'), by rw [List.length_append]; rfl, by go_num, HS.out.step hsz HB3.out HO3.out HO4.out ((Below.refl _ _).alloc (Nat.le_refl _) _) hown5 hg5 hat5⟩
      case measure => simp [intOf]; omega
    · obtain rfl : k = L.length := by omega
      go_wp2_with fail
      go_ret
      refine ⟨M, P, pc, ?_, rfl, HS.out.row, fun x hx => ⟨((HS.out.its x hx).1).mono (fun _ hi => hi.1), ((HS.out.its x hx).2).mono (fun _ hi => hi.1)⟩, HB.out⟩
      rw [hM.out, List.take_of_length_le (Nat.le_refl _)]
      exact HNS.out
end Go.Proofs.YtohfofecbdfkgaaDoor

/-
  The walk of sameNotices, of lists that are equal.
-/
namespace Go.Proofs.YtohfofecbdfkgaaDoor
open Go.RowKit Al

set_option maxRecDepth 100000 in
set_option maxHeartbeats 8000000 in
theorem sameNotices_ (L M : List It) (P : Option Addr) (pc : Nat) (Q : Option Addr) (qc n m : Nat) (w : World) (hn : n = L.length) (hm : m = M.length) (hP : Sl w w.heap.size 10 P L.length pc (itCells L)) (hQ : Sl w w.heap.size 10 Q M.length qc (itCells M))
    (hL : ∀ x ∈ L, NIn w x.n x.A x.c x.S x.sc) (hM : ∀ x ∈ M, NIn w x.n x.A x.c x.S x.sc) (he : L.map (·.n) = M.map (·.n)) :
    Calls Tryd.prog 42 #[.slice P n pc, .slice Q m qc] w fun e w' => e = .returned (.bool true) ∧ Below w.heap.size w w' := by
  subst hn hm
  have hlen : L.length = M.length := by have := congrArg List.length he; simpa using this
  have t1 : ((L.length : Int) != (M.length : Int)) = false := by simp [hlen]
  have hb1 : L.length ≤ maxLen := Nat.le_trans hP.cap hP.max
  unfold maxLen at hb1
  have HP := Lib.hid hP
  have HQ := Lib.hid hQ
  have HL := Lib.hid hL
  have HM := Lib.hid hM
  have HE := Lib.hid he
  have hlm : L.length ≤ M.length := by omega
  clear hP hQ hL hM he hlen
  go_enter Tryd.func42, Tryd.ntmps42
  go_wp2_with fail
  go_loopw [5] (fun i wr => SaRel L.length w i wr) (fun i _ => L.length - (intOf i).toNat)
  case atStart => exact ⟨0, Nat.zero_le _, rfl, Below.refl _ _⟩
  case round =>
    obtain ⟨k, hk, rfl, hB⟩ := hrel
    have hsz := hB.size
    have HB := Lib.hid hB
    clear hB
    by_cases hlt : k < L.length
    · have hlt2 : k < M.length := by omega
      have i0 : (0 : Int) ≤ (k : Int) := by omega
      have i1 : (k : Int) < (L.length : Int) := by omega
      have i2 : (k : Int) < (M.length : Int) := by omega
      obtain ⟨b1, o1, rfl, hb1, y0, y1, y2, y3, y4, y5, y6, y7, y8, y9⟩ := (HP.out.below HB.out).it_at hlt
      obtain ⟨b2, o2, rfl, hb2, z0, z1, z2, z3, z4, z5, z6, z7, z8, z9⟩ := (HQ.out.below HB.out).it_at hlt2
      have hb3 : b1 < wr.heap.size := by omega
      have hb4 : b2 < wr.heap.size := by omega
      have HA1 := Lib.hid ((HL.out L[k] (List.getElem_mem hlt)).below HB.out)
      have HA2 := Lib.hid ((HM.out M[k] (List.getElem_mem hlt2)).below HB.out)
      have hek : M[k].n = L[k].n := by
        have := congrArg (fun l => l[k]?) HE.out
        simpa [hlt, hlt2] using this.symm
      obtain ⟨x, hx⟩ : ∃ x, x = L[k] := ⟨_, rfl⟩
      obtain ⟨y, hy⟩ : ∃ y, y = M[k] := ⟨_, rfl⟩
      rw [← hx] at y0 y1 y2 y3 y4 y5 y6 y7 y8 y9 HA1 hek
      rw [← hy] at z0 z1 z2 z3 z4 z5 z6 z7 z8 z9 HA2 hek
      obtain ⟨yn, yA, yc, yS, ysc⟩ := y
      have hek' : yn = x.n := hek
      subst hek'
      clear hx hy hek
      have HV := Lib.hid (sameB_refl x.n.a)
      have hsl : x.n.sg.length ≤ maxLen := Nat.le_trans HA1.out.sl.cap HA1.out.sl.max
      unfold maxLen at hsl
      go_wp2_with fail
      refine wp_region_bw2 (by kernel_rfl) (by kernel_rfl) (fun hbwc => ?_)
      repeat (go_big_quiet_step ((go_at_call 16; exact bwCall (same_is x.n.a x.n.a x.A x.c yA yc _ (AIn.below (AIn.below HA1.out.al (by (repeat (first | exact Below.refl _ _ | assumption | refine below_drewN ?_ _ | refine Below.drew ?_ | refine Below.setCell ?_ (by first | omega | (simp; done) | (simp; omega)) _ | refine Below.alloc ?_ (by first | omega | (simp; done) | (simp; omega)) _)))) (BW.below _)) (AIn.below (AIn.below HA2.out.al (by (repeat (first | exact Below.refl _ _ | assumption | refine below_drewN ?_ _ | refine Below.drew ?_ | refine Below.setCell ?_ (by first | omega | (simp; done) | (simp; omega)) _ | refine Below.alloc ?_ (by first | omega | (simp; done) | (simp; omega)) _)))) (BW.below _)) true HV.out))))
      refine wpQuiet_nil ?_
      clear hbwc
      intro w3 hb
      have HB3 := Lib.hid ((show Below wr.heap.size wr _ from (by (repeat (first | exact Below.refl _ _ | assumption | refine below_drewN ?_ _ | refine Below.drew ?_ | refine Below.setCell ?_ (by first | omega | (simp; done) | (simp; omega)) _ | refine Below.alloc ?_ (by first | omega | (simp; done) | (simp; omega)) _)))).trans (hb.mono (by first | omega | (simp; done) | (simp; omega))))
      clear hb
      have hz3 := HB3.out.size
      have u9 : w3.cell? ⟨b1, o1 + k * 10 + 9, none⟩ = some (.slice x.S x.n.sg.length x.sc) := (HB3.out.cell (p := ⟨b1, o1 + k * 10 + 9, none⟩) hb3).trans y9
      have v9 : w3.cell? ⟨b2, o2 + k * 10 + 9, none⟩ = some (.slice yS x.n.sg.length ysc) := (HB3.out.cell (p := ⟨b2, o2 + k * 10 + 9, none⟩) hb4).trans z9
      have HA13 := Lib.hid (HA1.out.below HB3.out)
      have HA23 := Lib.hid (HA2.out.below HB3.out)
      clear y0 y1 y2 y3 y4 y5 y6 y7 y8 y9 z0 z1 z2 z3 z4 z5 z6 z7 z8 z9
      go_wp2_with fail
      go_loopw [6] (fun i wz => ∃ j : Nat, j ≤ x.n.sg.length ∧ i = .int .i64 j ∧ Hid (Below w3.heap.size w3 wz)) (fun i _ => x.n.sg.length - (intOf i).toNat)
      case atStart => exact ⟨0, Nat.zero_le _, rfl, Lib.hid (Below.refl _ _)⟩
      case round =>
        obtain ⟨j, hj, rfl, HZ⟩ := hrel
        have hzz := HZ.out.size
        have p9 : wr.cell? ⟨b1, o1 + k * 10 + 9, none⟩ = some (.slice x.S x.n.sg.length x.sc) := (HZ.out.cell (p := ⟨b1, o1 + k * 10 + 9, none⟩) (show b1 < w3.heap.size by omega)).trans u9
        have r9 : wr.cell? ⟨b2, o2 + k * 10 + 9, none⟩ = some (.slice yS x.n.sg.length ysc) := (HZ.out.cell (p := ⟨b2, o2 + k * 10 + 9, none⟩) (show b2 < w3.heap.size by omega)).trans v9
        have hc1 : b1 < wr.heap.size := by omega
        have hc2 : b2 < wr.heap.size := by omega
        by_cases hjl : j < x.n.sg.length
        · obtain ⟨c1, q1, e1, hd1, m1, m2⟩ := (HA13.out.below HZ.out).sl.key_at hjl
          obtain ⟨c2, q2, e2, hd2, m3, m4⟩ := (HA23.out.below HZ.out).sl.key_at hjl
          rw [e1] at p9
          rw [e2] at r9
          have j0 : (0 : Int) ≤ (j : Int) := by omega
          have j1 : (j : Int) < (x.n.sg.length : Int) := by omega
          obtain ⟨s, hs⟩ : ∃ s, s = x.n.sg[j] := ⟨_, rfl⟩
          rw [← hs] at m1 m2 m3 m4
          clear hs e1 e2
          go_wp2_with fail
          refine wp_region_bw2 (by kernel_rfl) (by kernel_rfl) (fun hbwc => ?_)
          repeat (go_big_quiet_step (fail))
          refine wpQuiet_nil ?_
          clear hbwc
          intro w8 hb
          have HZ8 : Hid (Below w3.heap.size w3 w8) := HZ.out.trans ((Below.trans (by (repeat (first | exact Below.refl _ _ | assumption | refine below_drewN ?_ _ | refine Below.drew ?_ | refine Below.setCell ?_ (by first | omega | (simp; done) | (simp; omega)) _ | refine Below.alloc ?_ (by first | omega | (simp; done) | (simp; omega)) _))) hb).mono HZ.out.size)
          clear hb
          go_wp2_with fail
          go_roundw
          case rel => exact ⟨j + 1, by omega, by go_num, HZ8⟩
          case measure => simp [intOf]; omega
        · obtain rfl : j = x.n.sg.length := by omega
          go_wp2_with fail
          go_roundw
          case rel => exact ⟨k + 1, by omega, by go_num, HB.out.trans ((HB3.out.trans (HZ.out.mono HB3.out.size)).mono hsz)⟩
          case measure => simp [intOf]; omega
    · obtain rfl : k = L.length := by omega
      go_wp2_with fail
      go_ret
      exact ⟨rfl, HB.out⟩
end Go.Proofs.YtohfofecbdfkgaaDoor

/-
  The walks of Post on a nil and a zero board; NewBoard of the specification; posting between boards.
-/
namespace Go.Proofs.YtohfofecbdfkgaaDoor
open Go.RowKit Al

set_option maxRecDepth 100000 in
theorem post_nil (w : World) :
    Calls Tryd.prog 32 #[.pointer none, .agg #[.string ⟨#[]⟩, .int .i64 0, .int .i64 0, .int .i64 0, .int .i64 0, .int .i64 0, .slice none 0 0, .bool false, .int .i64 0, .slice none 0 0]] w fun e w' => e = .returned (.int .i64 1) ∧ Below w.heap.size w w' := by
  go_enter Tryd.func32, Tryd.ntmps32
  go_wp2_with (go_at_call 70; refine (none_nil _).mono ?_; rintro e w' ⟨rfl, rfl⟩)
  go_ret
  exact ⟨rfl, (by repeat (first | exact Below.refl _ _ | assumption | refine below_drewN ?_ _ | refine Below.drew ?_ | refine Below.setCell ?_ (by first | omega | (simp; done) | (simp; omega)) _ | refine Below.alloc ?_ (by first | omega | (simp; done) | (simp; omega)) _))⟩
set_option maxRecDepth 100000 in
theorem post_zero (b : Nat) (w : World) (c3 : w.cell? ⟨b, 3, none⟩ = some (.map none)) (hlt : b < w.heap.size) :
    Calls Tryd.prog 32 #[.pointer (some ⟨b, 0, none⟩), .agg #[.string ⟨#[]⟩, .int .i64 0, .int .i64 0, .int .i64 0, .int .i64 0, .int .i64 0, .slice none 0 0, .bool false, .int .i64 0, .slice none 0 0]] w fun e w' => e = .returned (.int .i64 1) ∧ Below w.heap.size w w' := by
  go_enter Tryd.func32, Tryd.ntmps32
  go_wp2_with (go_at_call 70; refine (none_zero b _ (by simp [go_sem, hlt, c3])).mono ?_; rintro e w' ⟨rfl, rfl⟩)
  go_ret
  exact ⟨rfl, (by repeat (first | exact Below.refl _ _ | assumption | refine below_drewN ?_ _ | refine Below.drew ?_ | refine Below.setCell ?_ (by first | omega | (simp; done) | (simp; omega)) _ | refine Below.alloc ?_ (by first | omega | (simp; done) | (simp; omega)) _))⟩
/-- Posting to a board, the argument apart from it. -/
theorem PostX (S : Nat → Prop) (b : Nat) (ks : List (Int × Int)) (q : Int) (ns : List Ntc) (n : Ntc) (A : Option Addr) (c : Nat) (Z : Option Addr) (zc : Nat) (v : Int) (ns' : List Ntc) (w : World) (hv : postE ks q ns n = v) (hn' : postN ks q ns n = ns')
    (h : Bd w S b ks q ns) (hn : NIn w n A c Z zc) (ht : Rdy w) (hna : SlR w (fun i => ¬ S i) 1 A n.a.cells.length c (ints n.a.cells)) :
    Calls Tryd.prog 32 #[.pointer (some ⟨b, 0, none⟩), n.val A c Z zc] w fun e w' => e = .returned (.int .i64 v) ∧ Bd w' (fun i => (S i ∨ w.heap.size ≤ i) ∧ i < w'.heap.size) b ks q ns' ∧ Kp S w w' := by
  refine (Post_ S b ks q ns n A c Z zc w h hn ht hna).mono fun e w' hp => ?_
  obtain ⟨h1, h2, h3⟩ := hp
  rw [hv] at h1
  rw [hn'] at h2
  exact ⟨h1, h2.cut, h3⟩
theorem rPostX (S : Nat → Prop) (y : Nat) (ks : List (Int × Int)) (q : Int) (ns : List Ntc) (n : Ntc) (A : Option Addr) (c : Nat) (Z : Option Addr) (zc : Nat) (v : Int) (ns' : List Ntc) (w : World) (hv : postE ks q ns n = v) (hn' : postN ks q ns n = ns')
    (h : Sp w S y ks q ns) (hn : NIn w n A c Z zc) :
    Calls Tryd.prog 39 #[.pointer (some ⟨y, 0, none⟩), n.val A c Z zc] w fun e w' => e = .returned (.int .i64 v) ∧ Sp w' (fun i => (S i ∨ w.heap.size ≤ i) ∧ i < w'.heap.size) y ks q ns' ∧ Kp S w w' := by
  refine (rPost_ S y ks q ns n A c Z zc w h hn).mono fun e w' hp => ?_
  obtain ⟨h1, h2, h3⟩ := hp
  rw [hv] at h1
  rw [hn'] at h2
  exact ⟨h1, h2.cut, h3⟩

theorem step_append_sl {P : Program} {w : World} {ops : Array Oper} {o : Oper} {a : Act} {K : Act → World → Prop} {Q : Exit → Act → World → Prop} {E : Prop} (hgd : o.guard = none) (s x : Operand) (t : TypeId)
    (ho : o.op = .call { callee := .builtin .append, args := #[s, x], argTypes := #[t, t] })
    (base : Nat) (e : TypeId) (i : TypeInfo) (z : Value) (size bytes : Nat) (ht : P.underlying t = some (.slice e)) (hi : P.info? e = some i) (hz : i.zero = some z)
    (hsize : i.size = size) (hby : i.bytes = bytes) (hzs : z.cells.size = size) (hsz : 0 < size)
    (v : Value) (n : Nat) (xs : List Value) (hs : a.eval s = v) (hown : w.ownsRow base e size v n xs)
    (B : Nat) (A : Option Addr) (m c : Nat) (news : List Value) (hx : a.eval x = .slice A m c) (hsl : Sl w B size A m c news) (h1 : ∀ u ∈ news, u.oneCell' = true)
    (h63 : n + m ≤ maxLen) (hbytes : (n + m) * bytes ≤ 140737488355328) (hbase : base ≤ w.heap.size)
    (h : ∀ v' w', w'.ownsRow base e size v' (n + m) (xs ++ news) → w.grownBy w' v.ownBlock → (v'.ownBlock = v.ownBlock ∨ v'.ownBlock = some w.heap.size) → K (a.put o.dst v') w') :
    if Region.wanted o (yielded ops a.tmps) = true then Oper.wp P o a w K Q else E := by
  have hw : Region.wanted o (yielded ops a.tmps) = true := by simp [Region.wanted, hgd]
  rw [if_pos hw]
  obtain ⟨v', w', hr, h2, h3, h5⟩ := run_append_sl (P := P) w base t o.type e i z size bytes ht hi hz hsize hby hzs hsz v n xs hown B A m c news hsl h1 h63 hbytes hbase
  unfold Oper.wp execOp
  simp only [ho, resolve, invoke, builtin, Sem.run_bind, Sem.run_pure, Result.andThen_ok, List.map_toArray, List.map_cons, List.map_nil, hs, hx, hr]
  exact h v' w' h2 h3 h5

/-- What NewBoard of the specification hands back where the roll is valid. -/
def SNewT (ks : List (Int × Int)) (q : Int) (w : World) (e : Ending) (w' : World) : Prop := ∃ y, e = .returned (.tuple #[.pointer (some ⟨y, 0, none⟩), .int .i64 0]) ∧ w.heap.size ≤ y ∧ Sp w' (fun i => w.heap.size ≤ i) y ks q [] ∧ Below w.heap.size w w'
set_option maxRecDepth 100000 in
set_option maxHeartbeats 1000000 in
theorem rnewBoard_f (ks : List (Int × Int)) (q : Int) (A : Option Addr) (c : Nat) (w : World) (h : Rin w ks A c) (ho : rollOk ks q = false) :
    Calls Tryd.prog 37 #[rollV ks A c q] w fun e w' => e = .returned (.tuple #[.pointer none, .int .i64 104]) ∧ Below w.heap.size w w' := by
  have HR := Lib.hid h
  have HO := Lib.hid ho
  clear h ho
  go_enter Tryd.func37, Tryd.ntmps37
  go_wp2_with fail
  refine (rCheckRoll_is ks q A c _ 104 (errA_f HO.out) (HR.out.below (by (repeat (first | exact Below.refl _ _ | assumption | refine below_drewN ?_ _ | refine Below.drew ?_ | refine Below.setCell ?_ (by first | omega | (simp; done) | (simp; omega)) _ | refine Below.alloc ?_ (by first | omega | (simp; done) | (simp; omega)) _))))).mono ?_
  rintro e w1 ⟨rfl, hb⟩
  obtain ⟨hcw1, hfw1⟩ := bcell hb
  have Hw1 := Lib.hid ((show Below w.heap.size w _ from (by repeat (first | exact Below.refl _ _ | assumption | refine below_drewN ?_ _ | refine Below.drew ?_ | refine Below.setCell ?_ (by first | omega | (simp; done) | (simp; omega)) _ | refine Below.alloc ?_ (by first | omega | (simp; done) | (simp; omega)) _))).trans (hb.mono (by first | omega | (simp; done) | (simp; omega))))
  have hzw1 := hb.size
  try simp at hzw1
  clear hb
  go_wp2_with fail
  go_ret2
  exact ⟨rfl, Hw1.out⟩
set_option maxRecDepth 100000 in
set_option maxHeartbeats 2000000 in
theorem rnewBoard_t (ks : List (Int × Int)) (q : Int) (A : Option Addr) (c : Nat) (w : World) (h : Rin w ks A c) (ho : rollOk ks q = true) :
    Calls Tryd.prog 37 #[rollV ks A c q] w (SNewT ks q w) := by
  have hlen := rollOk_len ho
  obtain ⟨i0, hi, hi0, hi1, hi2⟩ := info_parts infoKey
  have HR := Lib.hid h
  have HO := Lib.hid ho
  clear h ho
  go_enter Tryd.func37, Tryd.ntmps37
  go_wp2_with fail
  refine (rCheckRoll_is ks q A c _ 0 (errA_t HO.out) (HR.out.below (by (repeat (first | exact Below.refl _ _ | assumption | refine below_drewN ?_ _ | refine Below.drew ?_ | refine Below.setCell ?_ (by first | omega | (simp; done) | (simp; omega)) _ | refine Below.alloc ?_ (by first | omega | (simp; done) | (simp; omega)) _))))).mono ?_
  rintro e w1 ⟨rfl, hb⟩
  obtain ⟨hcw1, hfw1⟩ := bcell hb
  have Hw1 := Lib.hid ((show Below w.heap.size w _ from (by repeat (first | exact Below.refl _ _ | assumption | refine below_drewN ?_ _ | refine Below.drew ?_ | refine Below.setCell ?_ (by first | omega | (simp; done) | (simp; omega)) _ | refine Below.alloc ?_ (by first | omega | (simp; done) | (simp; omega)) _))).trans (hb.mono (by first | omega | (simp; done) | (simp; omega))))
  have hzw1 := hb.size
  try simp at hzw1
  clear hb
  have hz3 : w.heap.size < w1.heap.size := by omega
  go_wp2_with fail
  have d0 : w1.cell? ⟨w.heap.size, 0, none⟩ = some (.slice A ks.length c) := by rw [hcw1 _ _ (by simp)]; simp [go_sem]
  have d1 : w1.cell? ⟨w.heap.size, 1, none⟩ = some (.int .i64 q) := by rw [hcw1 _ _ (by simp)]; simp [go_sem]
  have hB1 := Hw1.out
  go_region_law (refine step_append_sl rfl (.tmp 11) (.tmp 13) 22 rfl w1.heap.size 54 i0 (.agg #[.int .i64 0, .int .i64 0]) 2 16 Tryd.underlying22 hi hi0 hi1 hi2 rfl (by decide) (.slice none 0 0) 0 [] (by rfl) (World.ownsRow_nil _ _ _ _) _ A ks.length c (keyCells ks) (by rfl) (HR.out.below (Hw1.out.trans (by (repeat (first | exact Below.refl _ _ | assumption | refine below_drewN ?_ _ | refine Below.drew ?_ | refine Below.setCell ?_ (by first | omega | (simp; done) | (simp; omega)) _ | refine Below.alloc ?_ (by first | omega | (simp; done) | (simp; omega)) _))))) (keyCells_one ks) (by unfold maxLen; omega) (by omega) (by simp) ?_; intro v' w2 hown hgrow _; obtain ⟨A', c', rfl⟩ := own_form hown; have k1 : w2.cell? ⟨w.heap.size, 1, none⟩ = some (.int .i64 q) := (by rw [hgrow.cell_far _ (by simp; omega) (by intro f; cases f)]; exact d1))
  all_goals
    go_wp2_with fail
    go_ret2
    simp only [Nat.zero_add, List.nil_append] at hown
    have h12 : Below w1.heap.size w1 w2 := (show Below w1.heap.size w1 _ from by (repeat (first | exact Below.refl _ _ | assumption | refine below_drewN ?_ _ | refine Below.drew ?_ | refine Below.setCell ?_ (by first | omega | (simp; done) | (simp; omega)) _ | refine Below.alloc ?_ (by first | omega | (simp; done) | (simp; omega)) _))).trans (Below.grown (Below.refl _ _) hgrow (by simp) (by intro k hk; cases hk))
    have s2 := h12.size
    have hk : SlR w2 (fun i => w1.heap.size ≤ i ∧ i < w2.heap.size) 2 A' ks.length c' (keyCells ks) := SlR.of_own hown (fun i h1 h2 => ⟨h1, h2⟩)
    refine ⟨w2.heap.size, rfl, by omega, ⟨fun i => w1.heap.size ≤ i ∧ i < w2.heap.size, A', c', [], none, 0, ?_, rfl, ?_⟩, ?_⟩
    · refine ⟨by simp [go_sem], by simp [go_sem], by simp [go_sem], by simp [go_sem], ?_, World.ownsRow_nil _ _ _ _, by simp, HO.out, by simp, by omega, (fun a ha => by cases ha), by simp, fun i hi => by simp; omega⟩
      exact hk.keep (Kp.of_below ((Below.refl _ _).alloc (Nat.le_refl _) _)) (fun _ _ h => h)
    · rintro i (h | h | ⟨a, ha, _⟩)
      · omega
      · omega
      · cases ha
    · exact (Hw1.out.trans (h12.mono Hw1.out.size)).alloc (by omega) _
end Go.Proofs.YtohfofecbdfkgaaDoor

/-
  Two boards, of the program and of the specification, apart from each other, between calls; an own notice beside them.
-/
namespace Go.Proofs.YtohfofecbdfkgaaDoor
open Go.RowKit Al

/-- An own notice's places. -/
abbrev Ar := Option (Option Addr × Nat × Option Addr × Nat)
/-- Two boards that hold notices, apart from each other, and from an own notice. -/
def Bo4 (lo b y : Nat) (ks : List (Int × Int)) (q : Int) (nx ny : List Ntc) (n : Ntc) (ar : Ar) (w : World) : Prop :=
  ∃ S1 S2 : Nat → Prop, Bd w S1 b ks q nx ∧ Sp w S2 y ks q ny ∧ (∀ i, S1 i → lo ≤ i ∧ i < w.heap.size) ∧ (∀ i, S2 i → lo ≤ i ∧ i < w.heap.size) ∧ (∀ i, S1 i → ¬ S2 i) ∧
    ∀ a, ar = some a → SlR w (fun i => ¬ S1 i ∧ ¬ S2 i) 1 a.1 n.a.cells.length a.2.1 (ints n.a.cells) ∧ SlR w (fun i => ¬ S1 i ∧ ¬ S2 i) 2 a.2.2.1 n.sg.length a.2.2.2 (keyCells n.sg)
theorem Bo4.below {lo b y : Nat} {ks : List (Int × Int)} {q : Int} {nx ny : List Ntc} {n : Ntc} {ar : Ar} {w w' : World} (h : Bo4 lo b y ks q nx ny n ar w) (hb : Below w.heap.size w w') : Bo4 lo b y ks q nx ny n ar w' := by
  obtain ⟨S1, S2, h1, h2, h3, h4, h5, h6⟩ := h
  have := hb.size
  exact ⟨S1, S2, h1.below hb, h2.below hb, fun i hi => ⟨(h3 i hi).1, by have := (h3 i hi).2; omega⟩, fun i hi => ⟨(h4 i hi).1, by have := (h4 i hi).2; omega⟩, h5,
    fun a ha => ⟨((h6 a ha).1).keep (F := fun _ => False) (Kp.of_below hb) (fun _ _ f => f), ((h6 a ha).2).keep (F := fun _ => False) (Kp.of_below hb) (fun _ _ f => f)⟩⟩
theorem Bo4.bare {lo b y : Nat} {ks : List (Int × Int)} {q : Int} {nx ny : List Ntc} {n n' : Ntc} {ar : Ar} {w : World} (h : Bo4 lo b y ks q nx ny n ar w) : Bo4 lo b y ks q nx ny n' none w := by
  obtain ⟨S1, S2, h1, h2, h3, h4, h5, _⟩ := h
  exact ⟨S1, S2, h1, h2, h3, h4, h5, fun a ha => by cases ha⟩
theorem slr_keepLt {w w' : World} {R R' F : Nat → Prop} {sz n c : Nat} {A : Option Addr} {xs : List Value} (h : SlR w R sz A n c xs) (k : Kp F w w') (hRF : ∀ i, R i → ¬ F i) (hR : ∀ i, R i → i < w.heap.size → R' i) : SlR w' R' sz A n c xs := by
  have hk := h.keep k hRF
  refine ⟨hk.sl, fun hn a ea => hR _ (h.at_ hn a ea) ?_⟩
  obtain ⟨b, off, e, hb, _⟩ := h.sl.at_ hn
  rw [ea] at e
  cases e
  exact hb
/-- Own notice, beside two boards. -/
theorem own_T (lo b y : Nat) (ks : List (Int × Int)) (q : Int) (nx ny : List Ntc) (n : Ntc) (A : Option Addr) (c : Nat) (S : Option Addr) (sc : Nat) (w : World) (hlo : lo ≤ w.heap.size) (h : Bo4 lo b y ks q nx ny n none w) (hn : NIn w n A c S sc) (hb : n.a.cells.length * 8 ≤ 140737488355328) (hb2 : n.sg.length * 16 ≤ 140737488355328) :
    Calls Tryd.prog 38 #[n.val A c S sc] w fun e w' => ∃ A' c' S' sc', e = .returned (n.val A' c' S' sc') ∧ Bo4 lo b y ks q nx ny n (some (A', c', S', sc')) w' ∧ Below lo w w' := by
  refine (OwnNotice_ n A c S sc w hn hb hb2).mono ?_
  rintro e w' ⟨A', c', S', sc', rfl, hA, hS, hbw⟩
  refine ⟨A', c', S', sc', rfl, ?_, hbw.mono hlo⟩
  obtain ⟨S1, S2, h1, h2, h3, h4, h5, _⟩ := h.below hbw
  obtain ⟨T1, T2, g1, g2, g3, g4, g5, _⟩ := h
  have s := hbw.size
  refine ⟨T1, T2, g1.below hbw, g2.below hbw, fun i hi => ⟨(g3 i hi).1, by have := (g3 i hi).2; omega⟩, fun i hi => ⟨(g4 i hi).1, by have := (g4 i hi).2; omega⟩, g5, fun a ha => ?_⟩
  cases ha
  exact ⟨SlR.of_own hA (fun i hi _ => ⟨fun f => by have := (g3 i f).2; omega, fun f => by have := (g4 i f).2; omega⟩), SlR.of_own hS (fun i hi _ => ⟨fun f => by have := (g3 i f).2; omega, fun f => by have := (g4 i f).2; omega⟩)⟩
/-- Posting an own notice to the program's board, beside the other one. -/
theorem post_T (lo b y : Nat) (ks : List (Int × Int)) (q : Int) (ns ny : List Ntc) (n : Ntc) (A : Option Addr) (c : Nat) (S : Option Addr) (sc : Nat) (v : Int) (ns' : List Ntc) (w : World) (hv : postE ks q ns n = v) (hn' : postN ks q ns n = ns') (hlo : lo ≤ w.heap.size)
    (h : Bo4 lo b y ks q ns ny n (some (A, c, S, sc)) w) (hev : n.a.ev.size ≤ maxLen) (ht : Rdy w) :
    Calls Tryd.prog 32 #[.pointer (some ⟨b, 0, none⟩), n.val A c S sc] w fun e w' => e = .returned (.int .i64 v) ∧ Bo4 lo b y ks q ns' ny n (some (A, c, S, sc)) w' ∧ Below lo w w' := by
  obtain ⟨S1, S2, h1, h2, h3, h4, h5, h6⟩ := h
  obtain ⟨r1, r2⟩ := h6 _ rfl
  refine (PostX S1 b ks q ns n A c S sc v ns' w hv hn' h1 ⟨⟨hev, r1.sl⟩, r2.sl⟩ ht (r1.mono (fun i hi => hi.1))).mono ?_
  rintro e w' ⟨rfl, hB, hk⟩
  have s := hk.size
  refine ⟨rfl, ⟨_, S2, hB, h2.keep hk (fun i hi f => h5 i f hi), fun i hi => ⟨?_, hi.2⟩, fun i hi => ⟨(h4 i hi).1, by have := (h4 i hi).2; omega⟩, fun i hi f => ?_, fun a ha => ?_⟩, hk.below hlo (fun i hi => (h3 i hi).1)⟩
  · rcases hi.1 with hi | hi
    · exact (h3 i hi).1
    · omega
  · rcases hi.1 with hi | hi
    · exact h5 i hi f
    · have := (h4 i f).2; omega
  · cases ha
    have up : ∀ i, (¬ S1 i ∧ ¬ S2 i) → i < w.heap.size → (¬ ((S1 i ∨ w.heap.size ≤ i) ∧ i < w'.heap.size) ∧ ¬ S2 i) := fun i hi hlt => ⟨fun f => by
      rcases f.1 with f | f
      · exact hi.1 f
      · omega, hi.2⟩
    exact ⟨slr_keepLt r1 hk (fun i hi => hi.1) up, slr_keepLt r2 hk (fun i hi => hi.1) up⟩
/-- Posting to the specification's board, beside the other one. -/
theorem rpost_T (lo b y : Nat) (ks : List (Int × Int)) (q : Int) (nx ns : List Ntc) (n : Ntc) (ar : Ar) (A : Option Addr) (c : Nat) (S : Option Addr) (sc : Nat) (v : Int) (ns' : List Ntc) (w : World) (hv : postE ks q ns n = v) (hn' : postN ks q ns n = ns') (hlo : lo ≤ w.heap.size)
    (h : Bo4 lo b y ks q nx ns n ar w) (hn : NIn w n A c S sc) :
    Calls Tryd.prog 39 #[.pointer (some ⟨y, 0, none⟩), n.val A c S sc] w fun e w' => e = .returned (.int .i64 v) ∧ Bo4 lo b y ks q nx ns' n ar w' ∧ Below lo w w' := by
  obtain ⟨S1, S2, h1, h2, h3, h4, h5, h6⟩ := h
  refine (rPostX S2 y ks q ns n A c S sc v ns' w hv hn' h2 hn).mono ?_
  rintro e w' ⟨rfl, hB, hk⟩
  have s := hk.size
  refine ⟨rfl, ⟨S1, _, h1.keep hk (fun i hi f => h5 i hi f), hB, fun i hi => ⟨(h3 i hi).1, by have := (h3 i hi).2; omega⟩, fun i hi => ⟨?_, hi.2⟩, fun i hi f => ?_, fun a ha => ?_⟩, hk.below hlo (fun i hi => (h4 i hi).1)⟩
  · rcases hi.1 with hi | hi
    · exact (h4 i hi).1
    · omega
  · rcases f.1 with f | f
    · exact h5 i hi f
    · have := (h3 i hi).2; omega
  · obtain ⟨r1, r2⟩ := h6 a ha
    have up : ∀ i, (¬ S1 i ∧ ¬ S2 i) → i < w.heap.size → (¬ S1 i ∧ ¬ ((S2 i ∨ w.heap.size ≤ i) ∧ i < w'.heap.size)) := fun i hi hlt => ⟨hi.1, fun f => by
      rcases f.1 with f | f
      · exact hi.2 f
      · omega⟩
    exact ⟨slr_keepLt r1 hk (fun i hi => hi.2) up, slr_keepLt r2 hk (fun i hi => hi.2) up⟩
end Go.Proofs.YtohfofecbdfkgaaDoor
