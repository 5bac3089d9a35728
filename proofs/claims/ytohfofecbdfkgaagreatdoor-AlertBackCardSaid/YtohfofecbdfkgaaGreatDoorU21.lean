/-
  The board of the specification, in memory; the walks of of, last, Force, History of the specification.
-/
import Derived.Test.YtohfofecbdfkgaaGreatDoorU20
import Derived.Deep.RegionLaw
import Derived.Deep.AppendLies
namespace Go.Proofs.YtohfofecbdfkgaaGreatDoor
open Go.RowKit Al

set_option maxRecDepth 100000 in
set_option maxHeartbeats 4000000 in
theorem of_ (L : List It) (N : Option Addr) (nc : Nat) (ev : ByteArray) (F : List It) (w : World) (hF : L.filter (ofEv ev) = F) (hL : Sl w w.heap.size 10 N L.length nc (itCells L)) (hlen : L.length ≤ 1048576) :
    Calls Tryz.prog 66 #[.slice N L.length nc, .string ev] w (OwnIts F w) := by
  subst hF
  obtain ⟨i0, hi, hz0, hz1, hz2⟩ := info_parts infoNtc
  have HL := Lib.hid hL
  clear hL
  go_enter Tryz.func66, Tryz.ntmps66
  go_wp2_with fail
  go_loopw [5, 6] (fun o i wr => FiRel w L ev o i wr) (fun _ i _ => L.length - (intOf i).toNat)
  case atStart => exact ⟨0, none, 0, Nat.zero_le _, rfl, rfl, World.ownsRow_nil _ _ _ _, Below.refl _ _⟩
  case round =>
    obtain ⟨k, A, c, hk, rfl, rfl, hown, hB⟩ := hrel
    have hsz := hB.size
    have HB := Lib.hid hB
    have HO := Lib.hid hown
    clear hB hown
    by_cases hlt : k < L.length
    · obtain ⟨b, off, rfl, hb, y0, y1, y2, y3, y4, y5, y6, y7, y8, y9⟩ := (HL.out.below HB.out).it_at hlt
      have i0' : (0 : Int) ≤ (k : Int) := by omega
      have i1' : (k : Int) < (L.length : Int) := by omega
      have hb2 : b < wr.heap.size := by omega
      have hll := ofL_len ev L k
      by_cases ho : (L[k].n.a.ev.toList == ev.toList) = true
      · have HX := Lib.hid (ofL_yes hlt ho)
        go_wp2_with (at_builtin; refine wpList_append_lies _ rfl _ _ 25 rfl w.heap.size 54 i0 (.agg #[.string ⟨#[]⟩, .int .i64 0, .int .i64 0, .int .i64 0, .int .i64 0, .int .i64 0, .slice none 0 0, .bool false, .int .i64 0, .slice none 0 0]) 10 120 Tryz.underlying25 hi hz0 hz1 hz2 rfl (by decide) (.slice A (ofL ev L k).length c) (ofL ev L k).length (itCells (ofL ev L k)) rfl (own_below HO.out (Nat.le_refl _) (by (repeat (first | exact Below.refl _ _ | assumption | refine below_drewN ?_ _ | refine Below.drew ?_ | refine Below.setCell ?_ (by first | omega | (simp; done) | (simp; omega)) _ | refine Below.alloc ?_ (by first | omega | (simp; done) | (simp; omega)) _)))) _ 1 1 L[k].lst rfl rfl (World.news_of_block (heap_alloc_new wr _)) (ntL_one _ _ _ _ _ _) (by decide) (by unfold maxLen; omega) (by omega) (by simp; omega) _ rfl ?_; intro g5 cap w5 hown5 hg5 hat5 hlt5)
        go_roundw
        case rel => exact fi_step hlt HX.out hown5 (HB.out.trans (Below.mono (by (repeat (first | exact Below.refl _ _ | assumption | refine below_drewN ?_ _ | refine Below.drew ?_ | refine Below.setCell ?_ (by first | omega | (simp; done) | (simp; omega)) _ | refine Below.alloc ?_ (by first | omega | (simp; done) | (simp; omega)) _))) hsz)) hg5 (fun g hg => own_base HO.out hg)
        case measure => simp [intOf]; omega
      · have ho' : (L[k].n.a.ev.toList == ev.toList) = false := by simpa using ho
        have HX := Lib.hid (ofL_no hlt ho')
        go_wp2_with fail
        go_roundw
        case rel =>
          refine ⟨k + 1, A, c, by omega, ?_, by go_num, ?_, HB.out⟩
          · rw [HX.out]
          · rw [HX.out]
            exact HO.out
        case measure => simp [intOf]; omega
    · obtain rfl : k = L.length := by omega
      rw [ofL_end] at *
      go_wp2_with fail
      go_ret
      exact ⟨A, c, rfl, HO.out, HB.out⟩

/-- A board of the specification: its roll, its notices. -/
structure SpAt (w : World) (R : Nat → Prop) (y : Nat) (ks : List (Int × Int)) (q : Int) (K : Option Addr) (kc : Nat) (L : List It) (N : Option Addr) (nc : Nat) : Prop where
  c0 : w.cell? ⟨y, 0, none⟩ = some (.slice K ks.length kc)
  c1 : w.cell? ⟨y, 1, none⟩ = some (.int .i64 q)
  c2 : w.cell? ⟨y, 2, none⟩ = some (.slice N L.length nc)
  f2 : w.frozen? ⟨y, 2, none⟩ = false
  keys : SlR w R 2 K ks.length kc (keyCells ks)
  row : w.ownsRow 0 54 10 (.slice N L.length nc) L.length (itCells L)
  its : ∀ x ∈ L, ItIn w R x
  rok : rollOk ks q = true
  max : L.length ≤ 256
  ry : ¬ R y
  ny : ∀ a, N = some a → ¬ R a.block ∧ a.block ≠ y
  lt : y < w.heap.size
  rl : ∀ i, R i → i < w.heap.size
/-- The blocks of a board of the specification. -/
def SpF (R : Nat → Prop) (y : Nat) (N : Option Addr) (i : Nat) : Prop := R i ∨ i = y ∨ ∃ a, N = some a ∧ a.block = i
theorem SpAt.keep {w w' : World} {R F : Nat → Prop} {y : Nat} {ks : List (Int × Int)} {q : Int} {K : Option Addr} {kc : Nat} {L : List It} {N : Option Addr} {nc : Nat} (h : SpAt w R y ks q K kc L N nc) (k : Kp F w w') (hF : ∀ i, SpF R y N i → ¬ F i) : SpAt w' R y ks q K kc L N nc := by
  have fy : ¬ F y := hF y (.inr (.inl rfl))
  have fr : ∀ i, R i → ¬ F i := fun i hi => hF i (.inl hi)
  have cc : ∀ j, w'.cell? ⟨y, j, none⟩ = w.cell? ⟨y, j, none⟩ := fun j => k.cell (p := ⟨y, j, none⟩) h.lt fy
  refine ⟨(cc 0).trans h.c0, (cc 1).trans h.c1, (cc 2).trans h.c2, (k.frozen (p := ⟨y, 2, none⟩) h.lt fy).trans h.f2, h.keys.keep k fr, own_keep h.row k (fun g hg => hF g (.inr (.inr ?_))),
    fun x hx => (h.its x hx).keep k fr, h.rok, h.max, h.ry, h.ny, Nat.lt_of_lt_of_le h.lt k.size, fun i hi => Nat.lt_of_lt_of_le (h.rl i hi) k.size⟩
  cases hN : N with
  | none => rw [hN] at hg; cases hg
  | some a => rw [hN] at hg; cases hg; exact ⟨a, rfl, rfl⟩
/-- A board of the specification whose blocks are among those of S. -/
def Sp (w : World) (S : Nat → Prop) (y : Nat) (ks : List (Int × Int)) (q : Int) (ns : List Ntc) : Prop :=
  ∃ R K kc L N nc, SpAt w R y ks q K kc L N nc ∧ L.map (·.n) = ns ∧ ∀ i, SpF R y N i → S i
theorem Sp.keep {w w' : World} {S F : Nat → Prop} {y : Nat} {ks : List (Int × Int)} {q : Int} {ns : List Ntc} (h : Sp w S y ks q ns) (k : Kp F w w') (hF : ∀ i, S i → ¬ F i) : Sp w' S y ks q ns := by
  obtain ⟨R, K, kc, L, N, nc, h1, h2, h3⟩ := h
  exact ⟨R, K, kc, L, N, nc, h1.keep k (fun i hi => hF i (h3 i hi)), h2, h3⟩
theorem Sp.mono {w : World} {S S' : Nat → Prop} {y : Nat} {ks : List (Int × Int)} {q : Int} {ns : List Ntc} (h : Sp w S y ks q ns) (hS : ∀ i, S i → S' i) : Sp w S' y ks q ns := by
  obtain ⟨R, K, kc, L, N, nc, h1, h2, h3⟩ := h
  exact ⟨R, K, kc, L, N, nc, h1, h2, fun i hi => hS i (h3 i hi)⟩
theorem Sp.below {w w' : World} {S : Nat → Prop} {y : Nat} {ks : List (Int × Int)} {q : Int} {ns : List Ntc} (h : Sp w S y ks q ns) (hb : Below w.heap.size w w') : Sp w' S y ks q ns := h.keep (F := fun _ => False) (Kp.of_below hb) (fun _ _ f => f)
theorem Sp.cut {w : World} {S : Nat → Prop} {y : Nat} {ks : List (Int × Int)} {q : Int} {ns : List Ntc} (h : Sp w S y ks q ns) : Sp w (fun i => S i ∧ i < w.heap.size) y ks q ns := by
  obtain ⟨R, K, kc, L, N, nc, h1, h2, h3⟩ := h
  refine ⟨R, K, kc, L, N, nc, h1, h2, fun i hi => ⟨h3 i hi, ?_⟩⟩
  rcases hi with hi | rfl | ⟨a, ha, rfl⟩
  · exact h1.rl i hi
  · exact h1.lt
  · exact (own_lt h1.row (g := a.block) (by rw [ha]; rfl)).2

end Go.Proofs.YtohfofecbdfkgaaGreatDoor

/-
  The walk of Settle, of the specification.
-/
namespace Go.Proofs.YtohfofecbdfkgaaGreatDoor
open Go.RowKit Al
attribute [local go_sem ↓] Go.wp_at_zero Go.wp_at_succ

theorem mem_insW {m n : ByteArray} : ∀ {out : List ByteArray}, m ∈ insW n out → m = n ∨ m ∈ out
  | [], h => by simp [insW] at h; exact .inl h
  | x :: r, h => by
    unfold insW at h
    split at h
    · rcases List.mem_cons.1 h with h | h
      · exact .inl h
      · exact .inr h
    · rcases List.mem_cons.1 h with h | h
      · exact .inr (by rw [h]; simp)
      · rcases mem_insW h with h | h
        · exact .inl h
        · exact .inr (List.mem_cons_of_mem _ h)
theorem mem_evW {m : ByteArray} : ∀ {L : List It} {out : List ByteArray}, m ∈ L.foldl (fun out x => if wordIn x.n.a.ev out then out else insW x.n.a.ev out) out → m ∈ out ∨ ∃ x ∈ L, x.n.a.ev = m
  | [], out, h => .inl h
  | x :: L, out, h => by
    rw [List.foldl_cons] at h
    rcases mem_evW h with h | ⟨y, hy, e⟩
    · split at h
      · exact .inl h
      · rcases mem_insW h with h | h
        · exact .inr ⟨x, by simp, h.symm⟩
        · exact .inl h
    · exact .inr ⟨y, List.mem_cons_of_mem _ hy, e⟩
theorem evW_some {m : ByteArray} {L : List It} (h : m ∈ evW L) : 0 < (L.filter (ofEv m)).length := by
  rcases mem_evW h with h | ⟨x, hx, e⟩
  · cases h
  · refine List.length_pos_iff.2 (fun e2 => ?_)
    have : x ∈ L.filter (ofEv m) := List.mem_filter.2 ⟨hx, by unfold ofEv; rw [e]; simp⟩
    rw [e2] at this
    cases this
theorem evW_len (L : List It) : (evW L).length ≤ L.length := by
  have key : ∀ (L : List It) (out : List ByteArray), (L.foldl (fun out x => if wordIn x.n.a.ev out then out else insW x.n.a.ev out) out).length ≤ out.length + L.length := by
    intro L
    induction L with
    | nil => intro out; simp
    | cons x L ih =>
      intro out
      rw [List.foldl_cons]
      refine Nat.le_trans (ih _) ?_
      split
      · simp
      · rw [insW_len]; simp; omega
  have := key L []
  unfold evW
  simpa using this
/-- The valid notices. -/
def validN (ks : List (Int × Int)) (q : Int) (L : List It) : List It := L.filter fun x => noticeE ks q x.n == 0
/-- How all events stand. -/
def settleS (ks : List (Int × Int)) (q : Int) (L : List It) : List Std := (evW (validN ks q L)).map fun m => standS m ((validN ks q L).filter (ofEv m))
def stCells (l : List Std) : List Value := l.flatMap Std.lst
theorem Std.len (s : Std) : s.lst.length = 4 := rfl
theorem stCells_snoc (l : List Std) (s : Std) : stCells (l ++ [s]) = stCells l ++ s.lst := by simp [stCells]
theorem std_one (s : Std) : ∀ u ∈ s.lst, u.oneCell' = true := by
  intro u hu
  simp [Std.lst] at hu
  rcases hu with rfl | rfl | rfl | rfl <;> rfl
/-- Standings in memory of the call's own, with an error. -/
def OwnSt (l : List Std) (k : Int) (w : World) (e : Ending) (w' : World) : Prop := ∃ A c, e = .returned (.tuple #[.slice A l.length c, .int .i64 k]) ∧ w'.ownsRow w.heap.size 33 4 (.slice A l.length c) l.length (stCells l) ∧ Below w.heap.size w w'
theorem infoStd : (Tryz.prog.info? 33).map (fun i => (i.zero, i.size, i.bytes)) = some (some (.agg #[.string ⟨#[]⟩, .int .i64 0, .int .i64 0, .int .i64 0]), 4, 40) := by kernel_rfl
theorem many_is (ks : List (Int × Int)) (q : Int) (K : Option Addr) (kc : Nat) (N : Option Addr) (len nc : Nat) (v : Int) (w : World) (hv : manyE ks q len = v) (hr : Rin w ks K kc) (hlen : len ≤ 1152921504606846976) :
    Calls Tryz.prog 62 #[rollV ks K kc q, .slice N len nc] w fun e w' => e = .returned (.int .i64 v) ∧ Below w.heap.size w w' := hv ▸ many_ ks q K kc N len nc w hr hlen
theorem counting_is (ks : List (Int × Int)) (q : Int) (K : Option Addr) (kc : Nat) (L : List It) (N : Option Addr) (nc : Nat) (F : List It) (w : World) (hF : validN ks q L = F) (hr : Rin w ks K kc) (ho : rollOk ks q = true) (hL : Sl w w.heap.size 10 N L.length nc (itCells L)) (hI : ∀ x ∈ L, NIn w x.n x.A x.c x.S x.sc) (hlen : L.length ≤ 1048576) :
    Calls Tryz.prog 63 #[rollV ks K kc q, .slice N L.length nc] w (OwnIts F w) := hF ▸ counting_ ks q K kc L N nc w hr ho hL hI hlen
set_option maxRecDepth 100000 in
set_option maxHeartbeats 2000000 in
theorem rSettle_e (ks : List (Int × Int)) (q : Int) (K : Option Addr) (kc : Nat) (L : List It) (N : Option Addr) (nc : Nat) (v : Int) (w : World) (hv : manyE ks q L.length = v) (hv0 : (v == 0) = false) (hr : Rin w ks K kc) (hlen : L.length ≤ 1152921504606846976) :
    Calls Tryz.prog 24 #[rollV ks K kc q, .slice N L.length nc] w (OwnSt [] v w) := by
  have HR := Lib.hid hr
  have HV := Lib.hid hv
  have hv1 : (v != 0) = true := by rw [bne, hv0]; rfl
  clear hr hv
  go_enter Tryz.func24, Tryz.ntmps24
  go_wp2_with fail
  refine (many_is ks q K kc N L.length nc v _ HV.out (HR.out.below (by (repeat (first | exact Below.refl _ _ | assumption | refine below_drewN ?_ _ | refine Below.drew ?_ | refine Below.setCell ?_ (by first | omega | (simp; done) | (simp; omega)) _ | refine Below.alloc ?_ (by first | omega | (simp; done) | (simp; omega)) _)))) hlen).mono ?_
  rintro e w1 ⟨rfl, hb⟩
  obtain ⟨hcw1, hfw1⟩ := bcell hb
  have Hw1 := Lib.hid ((show Below w.heap.size w _ from (by repeat (first | exact Below.refl _ _ | assumption | refine below_drewN ?_ _ | refine Below.drew ?_ | refine Below.setCell ?_ (by first | omega | (simp; done) | (simp; omega)) _ | refine Below.alloc ?_ (by first | omega | (simp; done) | (simp; omega)) _))).trans (hb.mono (by first | omega | (simp; done) | (simp; omega))))
  have hzw1 := hb.size
  try simp at hzw1
  clear hb
  go_wp2_with fail
  go_ret2
  exact ⟨none, 0, rfl, World.ownsRow_nil _ _ _ _, Hw1.out⟩
end Go.Proofs.YtohfofecbdfkgaaGreatDoor

/-
  The walk of Settle, of the specification, for a valid roll and few notices.
-/
namespace Go.Proofs.YtohfofecbdfkgaaGreatDoor
open Go.RowKit Al
attribute [local go_sem ↓] Go.wp_at_zero Go.wp_at_succ

def SlRel (w3 : World) (E : List ByteArray) (g : ByteArray → Std) (o i : Value) (wr : World) : Prop :=
  ∃ (k : Nat) (A : Option Addr) (c : Nat), k ≤ E.length ∧ o = .slice A k c ∧ i = .int .i64 k ∧ wr.ownsRow w3.heap.size 33 4 (.slice A k c) k (stCells ((E.take k).map g)) ∧ Below w3.heap.size w3 wr
theorem st_next {E : List ByteArray} {g : ByteArray → Std} {k : Nat} (hk : k < E.length) : stCells ((E.take (k + 1)).map g) = stCells ((E.take k).map g) ++ (g E[k]).lst := by
  rw [List.take_succ_eq_append_getElem hk, List.map_append, List.map_cons, List.map_nil, stCells_snoc]
theorem standing_v (L : List It) (N : Option Addr) (nc : Nat) (ev : ByteArray) (s : Std) (w : World) (hs : standS ev L = s) (hL : Sl w w.heap.size 10 N L.length nc (itCells L)) (hI : ∀ x ∈ L, NIn w x.n x.A x.c x.S x.sc) (hok : ∀ x ∈ L, okA x.n.a = true) (hne : 0 < L.length) (hlen : L.length ≤ 1048576) :
    Calls Tryz.prog 65 #[.string ev, .slice N L.length nc] w fun e w' => e = .returned (.agg #[.string s.ev, .int .i64 s.st, .int .i64 s.ver, .int .i64 s.dig]) ∧ Below w.heap.size w w' :=
  (standing_ L N nc ev s w hs hL hI hok hne hlen).mono fun _ _ h => h
set_option maxRecDepth 100000 in
set_option maxHeartbeats 8000000 in
theorem rSettle_t (ks : List (Int × Int)) (q : Int) (K : Option Addr) (kc : Nat) (L : List It) (N : Option Addr) (nc : Nat) (w : World) (hr : Rin w ks K kc) (ho : rollOk ks q = true) (hl64 : L.length ≤ 64) (hL : Sl w w.heap.size 10 N L.length nc (itCells L)) (hI : ∀ x ∈ L, NIn w x.n x.A x.c x.S x.sc) :
    Calls Tryz.prog 24 #[rollV ks K kc q, .slice N L.length nc] w (OwnSt (settleS ks q L) 0 w) := by
  obtain ⟨i0, hi, hz0, hz1, hz2⟩ := info_parts infoStd
  have hm : manyE ks q L.length = 0 := by unfold manyE; rw [if_pos ho, if_neg (by omega)]
  obtain ⟨F, hF⟩ : ∃ F, validN ks q L = F := ⟨_, rfl⟩
  obtain ⟨E, hE⟩ : ∃ E, evW F = E := ⟨_, rfl⟩
  have hFm : ∀ x ∈ F, x ∈ L ∧ okA x.n.a = true := fun x hx => by
    rw [← hF] at hx
    obtain ⟨h1, h2⟩ := List.mem_filter.1 hx
    exact ⟨h1, (noticeE_zero (by simpa using h2)).1⟩
  have hFl : F.length ≤ 64 := by rw [← hF]; exact Nat.le_trans (List.length_filter_le _ _) hl64
  have hEl : E.length ≤ 64 := by rw [← hE]; exact Nat.le_trans (evW_len F) hFl
  have hRS : settleS ks q L = E.map fun m => standS m (F.filter (ofEv m)) := by unfold settleS; rw [hF, hE]
  have HR := Lib.hid hr
  have HO := Lib.hid ho
  have HL := Lib.hid hL
  have HI := Lib.hid hI
  have HM := Lib.hid hm
  have HF := Lib.hid hF
  have HE := Lib.hid hE
  have HFM := Lib.hid hFm
  rw [hRS]
  clear hr ho hL hI hm hF hE hFm hRS
  go_enter Tryz.func24, Tryz.ntmps24
  go_wp2_with fail
  refine (many_is ks q K kc N L.length nc 0 _ HM.out (HR.out.below (by (repeat (first | exact Below.refl _ _ | assumption | refine below_drewN ?_ _ | refine Below.drew ?_ | refine Below.setCell ?_ (by first | omega | (simp; done) | (simp; omega)) _ | refine Below.alloc ?_ (by first | omega | (simp; done) | (simp; omega)) _)))) (by omega)).mono ?_
  rintro e w1 ⟨rfl, hb⟩
  obtain ⟨hcw1, hfw1⟩ := bcell hb
  have Hw1 := Lib.hid ((show Below w.heap.size w _ from (by repeat (first | exact Below.refl _ _ | assumption | refine below_drewN ?_ _ | refine Below.drew ?_ | refine Below.setCell ?_ (by first | omega | (simp; done) | (simp; omega)) _ | refine Below.alloc ?_ (by first | omega | (simp; done) | (simp; omega)) _))).trans (hb.mono (by first | omega | (simp; done) | (simp; omega))))
  have hzw1 := hb.size
  try simp at hzw1
  clear hb
  have lw1 : w.heap.size < w1.heap.size := by omega
  go_wp2_with fail
  refine (counting_is ks q K kc L N nc F _ HF.out (HR.out.below Hw1.out) HO.out ((HL.out.below Hw1.out).more Hw1.out.size) (fun x hx => (HI.out x hx).below Hw1.out) (by omega)).mono ?_
  rintro e w2 ⟨P, fc, rfl, hrow2, hb⟩
  have Hw2 : Hid (Below w.heap.size w w2) := Hw1.out.trans (hb.mono Hw1.out.size)
  have HP := Lib.hid (Sl.of_own hrow2)
  clear hb hrow2
  go_wp2_with fail
  refine (events_ F P fc E _ HE.out HP.out (by omega)).mono ?_
  rintro e w3 ⟨Q, qc, rfl, hrow3, hb⟩
  have Hw3 : Hid (Below w.heap.size w w3) := Hw2.out.trans (hb.mono Hw2.out.size)
  have HP3 := Lib.hid ((HP.out.below hb).more hb.size)
  have HQ := Lib.hid (Sl.of_own hrow3)
  clear hb hrow3 HP
  go_wp2_with fail
  go_loopw [8, 9] (fun o i wr => SlRel w3 E (fun m => standS m (F.filter (ofEv m))) o i wr) (fun _ i _ => E.length - (intOf i).toNat)
  case atStart => exact ⟨0, none, 0, Nat.zero_le _, rfl, rfl, World.ownsRow_nil _ _ _ _, Below.refl _ _⟩
  case round =>
    obtain ⟨k, A, c, hk, rfl, rfl, hrow, hB⟩ := hrel
    have hsz := hB.size
    have HB := Lib.hid hB
    have HRW := Lib.hid hrow
    clear hB hrow
    by_cases hlt : k < E.length
    · obtain ⟨eb, eo, rfl, heb, z0⟩ := (HQ.out.below HB.out).str_at hlt
      have j0 : (0 : Int) ≤ (k : Int) := by omega
      have j1 : (k : Int) < (E.length : Int) := by omega
      have heb2 : eb < wr.heap.size := by omega
      have HX := Lib.hid (st_next (g := fun m => standS m (F.filter (ofEv m))) hlt)
      have hne : 0 < (F.filter (ofEv E[k])).length := evW_some (L := F) (by rw [HE.out]; exact List.getElem_mem hlt)
      obtain ⟨m, hmm⟩ : ∃ m, m = E[k] := ⟨_, rfl⟩
      rw [← hmm] at z0 HX hne
      clear hmm
      obtain ⟨G, hG⟩ : ∃ G, F.filter (ofEv m) = G := ⟨_, rfl⟩
      obtain ⟨s, hs⟩ : ∃ s, standS m G = s := ⟨_, rfl⟩
      have HXX : Hid (stCells ((E.take (k + 1)).map fun m => standS m (F.filter (ofEv m))) = stCells ((E.take k).map fun m => standS m (F.filter (ofEv m))) ++ s.lst) := by
        have h1 := HX.out
        show _ = _
        rw [h1]
        show _ ++ (standS m (F.filter (ofEv m))).lst = _
        rw [hG, hs]
      have hGm : ∀ x ∈ G, x ∈ F := fun x hx => by rw [← hG] at hx; exact (List.mem_filter.1 hx).1
      have hGl : G.length ≤ 64 := by rw [← hG]; exact Nat.le_trans (List.length_filter_le _ _) hFl
      rw [hG] at hne
      have HG := Lib.hid hG
      have HS := Lib.hid hs
      have HGM := Lib.hid hGm
      have Hwr : Hid (Below w.heap.size w wr) := Hw3.out.trans (HB.out.mono Hw3.out.size)
      have hww : w.heap.size ≤ wr.heap.size := Hwr.out.size
      clear hG hs hGm HX
      go_wp2_with fail
      go_region_law (first
        | ((go_simp; go_at_call 66; refine (of_ F P fc m G _ HG.out ((HP3.out.below (Below.trans HB.out (by (repeat (first | exact Below.refl _ _ | assumption | refine below_drewN ?_ _ | refine Below.drew ?_ | refine Below.setCell ?_ (by first | omega | (simp; done) | (simp; omega)) _ | refine Below.alloc ?_ (by first | omega | (simp; done) | (simp; omega)) _))))).more (by first | omega | (simp; done) | (simp; omega))) (by omega)).mono ?_; rintro e wa ⟨B, bc, rfl, howna, hba⟩; have sa := hba.size; (try simp at sa); have za : wa.cell? ⟨eb, eo + k, none⟩ = some (.string m) := ((hba.cell (p := ⟨eb, eo + k, none⟩) (by first | (simp; done) | (simp; omega) | omega)).trans (by first | exact z0 | simp [go_sem, z0])); have Ha : Below wr.heap.size wr wa := Below.trans (by (repeat (first | exact Below.refl _ _ | assumption | refine below_drewN ?_ _ | refine Below.drew ?_ | refine Below.setCell ?_ (by first | omega | (simp; done) | (simp; omega)) _ | refine Below.alloc ?_ (by first | omega | (simp; done) | (simp; omega)) _))) (hba.mono (by first | omega | (simp; done) | (simp; omega)))))
        | ((go_simp; go_at_call 65; refine (standing_v G B bc m s _ HS.out ((Sl.of_own howna).below (by (repeat (first | exact Below.refl _ _ | assumption | refine below_drewN ?_ _ | refine Below.drew ?_ | refine Below.setCell ?_ (by first | omega | (simp; done) | (simp; omega)) _ | refine Below.alloc ?_ (by first | omega | (simp; done) | (simp; omega)) _))) |>.more (by first | omega | (simp; done) | (simp; omega))) (fun x hx => (HI.out x (HFM.out x (HGM.out x hx)).1).below (Below.trans Hwr.out (Below.trans (Ha.mono (by omega)) (by (repeat (first | exact Below.refl _ _ | assumption | refine below_drewN ?_ _ | refine Below.drew ?_ | refine Below.setCell ?_ (by first | omega | (simp; done) | (simp; omega)) _ | refine Below.alloc ?_ (by first | omega | (simp; done) | (simp; omega)) _)))))) (fun x hx => (HFM.out x (HGM.out x hx)).2) hne (by omega)).mono ?_; rintro e wb ⟨rfl, hbb⟩; have sb := hbb.size; (try simp at sb); have Hb : Below wr.heap.size wr wb := Below.trans Ha (Below.trans (by (repeat (first | exact Below.refl _ _ | assumption | refine below_drewN ?_ _ | refine Below.drew ?_ | refine Below.setCell ?_ (by first | omega | (simp; done) | (simp; omega)) _ | refine Below.alloc ?_ (by first | omega | (simp; done) | (simp; omega)) _))) (hbb.mono (by first | omega | (simp; done) | (simp; omega))))))
        | ((refine step_append_lies _ rfl (.tmp 27) (.tmp 39) 27 rfl w3.heap.size 33 i0 (.agg #[.string ⟨#[]⟩, .int .i64 0, .int .i64 0, .int .i64 0]) 4 40 Tryz.underlying27 hi hz0 hz1 hz2 rfl (by decide) (.slice A k c) k (stCells ((E.take k).map fun m => standS m (F.filter (ofEv m)))) (by rfl) (own_below HRW.out (Nat.le_refl _) (Below.trans Hb (by (repeat (first | exact Below.refl _ _ | assumption | refine below_drewN ?_ _ | refine Below.drew ?_ | refine Below.setCell ?_ (by first | omega | (simp; done) | (simp; omega)) _ | refine Below.alloc ?_ (by first | omega | (simp; done) | (simp; omega)) _))))) _ 1 1 s.lst (by rfl) rfl (World.news_of_block (heap_alloc_new wb _)) (std_one s) (by omega) (by unfold maxLen; omega) (by omega) (by simp; omega) (wb.heap.size + 1) (by simp) ?_; intro g cap w5 hown5 hg5 hat5 hlt5)))
      all_goals
        go_wp2_with fail
        go_roundw
        case rel => exact ⟨k + 1, some ⟨g, 0, none⟩, cap, by omega, rfl, by go_num, by rw [HXX.out]; exact hown5, HB.out.trans (((show Below wr.heap.size wr _ from Below.trans Hb (by (repeat (first | exact Below.refl _ _ | assumption | refine below_drewN ?_ _ | refine Below.drew ?_ | refine Below.setCell ?_ (by first | omega | (simp; done) | (simp; omega)) _ | refine Below.alloc ?_ (by first | omega | (simp; done) | (simp; omega)) _)))).mono hsz).grown hg5 (by simp; omega) (fun g hg => own_base HRW.out hg))⟩
        case measure => simp [intOf]; omega
    · obtain rfl : k = E.length := by omega
      go_wp2_with fail
      go_ret2
      have h9 := HRW.out
      rw [List.take_length] at h9
      refine ⟨A, c, by rw [List.length_map]; rfl, ?_, Hw3.out.trans (HB.out.mono Hw3.out.size)⟩
      rw [List.length_map]
      exact own_more h9 Hw3.out.size
end Go.Proofs.YtohfofecbdfkgaaGreatDoor

/-
  The walk of sameStandings, of lists that are equal; Settle of the specification for every roll and notices.
-/
namespace Go.Proofs.YtohfofecbdfkgaaGreatDoor
open Go.RowKit Al

theorem Sl.std_at {w : World} {B n c : Nat} {A : Option Addr} {l : List Std} (h : Sl w B 4 A n c (stCells l)) {k : Nat} (hk : k < l.length) :
    ∃ b off, A = some ⟨b, off, none⟩ ∧ b < B ∧ w.cell? ⟨b, off + k * 4, none⟩ = some (.string l[k].ev) ∧ w.cell? ⟨b, off + k * 4 + 1, none⟩ = some (.int .i64 l[k].st) ∧ w.cell? ⟨b, off + k * 4 + 2, none⟩ = some (.int .i64 l[k].ver) ∧ w.cell? ⟨b, off + k * 4 + 3, none⟩ = some (.int .i64 l[k].dig) := by
  have hn : n = l.length := by have := h.len; unfold stCells at this; rw [flat_size Std.len] at this; omega
  obtain ⟨b, off, e, hb, hc⟩ := h.at_ (by omega)
  have at_ : ∀ j u, j < 4 → l[k].lst[j]? = some u → w.cell? ⟨b, off + k * 4 + j, none⟩ = some u := fun j u hj hu => by
    rw [Nat.add_assoc]
    exact hc _ _ ((flat_at Std.len hk hj).trans hu)
  exact ⟨b, off, e, hb, at_ 0 _ (by decide) rfl, at_ 1 _ (by decide) rfl, at_ 2 _ (by decide) rfl, at_ 3 _ (by decide) rfl⟩
set_option maxRecDepth 100000 in
set_option maxHeartbeats 4000000 in
theorem sameStandings_ (l : List Std) (P : Option Addr) (pc : Nat) (Q : Option Addr) (qc : Nat) (w : World) (hP : Sl w w.heap.size 4 P l.length pc (stCells l)) (hQ : Sl w w.heap.size 4 Q l.length qc (stCells l)) :
    Calls Tryz.prog 22 #[.slice P l.length pc, .slice Q l.length qc] w fun e w' => e = .returned (.bool true) ∧ Below w.heap.size w w' := by
  have hb1 : l.length ≤ maxLen := Nat.le_trans hP.cap hP.max
  unfold maxLen at hb1
  have HP := Lib.hid hP
  have HQ := Lib.hid hQ
  clear hP hQ
  go_enter Tryz.func22, Tryz.ntmps22
  go_wp2_with fail
  go_loopw [5] (fun i wr => SaRel l.length w i wr) (fun i _ => l.length - (intOf i).toNat)
  case atStart => exact ⟨0, Nat.zero_le _, rfl, Below.refl _ _⟩
  case round =>
    obtain ⟨k, hk, rfl, hB⟩ := hrel
    have hsz := hB.size
    have HB := Lib.hid hB
    clear hB
    by_cases hlt : k < l.length
    · have i0 : (0 : Int) ≤ (k : Int) := by omega
      have i1 : (k : Int) < (l.length : Int) := by omega
      obtain ⟨b1, o1, rfl, hb1, y0, y1, y2, y3⟩ := (HP.out.below HB.out).std_at hlt
      obtain ⟨b2, o2, rfl, hb2, z0, z1, z2, z3⟩ := (HQ.out.below HB.out).std_at hlt
      have hb3 : b1 < wr.heap.size := by omega
      have hb4 : b2 < wr.heap.size := by omega
      go_wp2_with fail
      refine wp_region_bw2 (by kernel_rfl) (by kernel_rfl) (fun hbwc => ?_)
      repeat (go_big_quiet_step (fail))
      refine wpQuiet_nil ?_
      clear hbwc
      intro w3 hb
      have HB3 := Lib.hid (HB.out.trans ((show Below w.heap.size wr _ from (by (repeat (first | exact Below.refl _ _ | assumption | refine below_drewN ?_ _ | refine Below.drew ?_ | refine Below.setCell ?_ (by first | omega | (simp; done) | (simp; omega)) _ | refine Below.alloc ?_ (by first | omega | (simp; done) | (simp; omega)) _)))).trans (hb.mono (by first | omega | (simp; done) | (simp; omega)))))
      clear hb
      go_wp2_with fail
      go_roundw
      case rel => exact ⟨k + 1, by omega, by go_num, HB3.out⟩
      case measure => simp [intOf]; omega
    · obtain rfl : k = l.length := by omega
      go_wp2_with fail
      go_ret
      exact ⟨rfl, HB.out⟩
/-- How all events stand, or the error. -/
def settleR (ks : List (Int × Int)) (q : Int) (L : List It) : List Std × Int := if manyE ks q L.length = 0 then (settleS ks q L, 0) else ([], manyE ks q L.length)
theorem manyE_zero {ks : List (Int × Int)} {q : Int} {len : Nat} (h : manyE ks q len = 0) : rollOk ks q = true ∧ len ≤ 64 := by
  unfold manyE at h
  split at h
  · rename_i h1
    split at h
    · cases h
    · exact ⟨h1, by omega⟩
  · cases h
theorem rSettle_ (ks : List (Int × Int)) (q : Int) (K : Option Addr) (kc : Nat) (L : List It) (N : Option Addr) (nc : Nat) (l : List Std) (k : Int) (w : World) (hv : settleR ks q L = (l, k)) (hr : Rin w ks K kc) (hL : Sl w w.heap.size 10 N L.length nc (itCells L)) (hI : ∀ x ∈ L, NIn w x.n x.A x.c x.S x.sc) (hlen : L.length ≤ 1152921504606846976) :
    Calls Tryz.prog 24 #[rollV ks K kc q, .slice N L.length nc] w (OwnSt l k w) := by
  unfold settleR at hv
  by_cases hm : manyE ks q L.length = 0
  · rw [if_pos hm] at hv
    obtain ⟨h1, h2⟩ := manyE_zero hm
    obtain ⟨rfl, rfl⟩ := Prod.mk.inj hv
    exact rSettle_t ks q K kc L N nc w hr h1 h2 hL hI
  · rw [if_neg hm] at hv
    obtain ⟨rfl, rfl⟩ := Prod.mk.inj hv
    exact rSettle_e ks q K kc L N nc _ w rfl (by simpa using hm) hr hlen
end Go.Proofs.YtohfofecbdfkgaaGreatDoor
