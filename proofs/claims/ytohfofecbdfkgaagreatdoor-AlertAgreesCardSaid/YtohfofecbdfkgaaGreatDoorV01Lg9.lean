/-
  The walk of Notices: all notices of a board, in memory of the call's own.
-/
import Derived.Test.YtohfofecbdfkgaaGreatDoorU20
namespace Go.Proofs.YtohfofecbdfkgaaGreatDoor
open Go.RowKit Al

/-- Cells that lie from base on, apart from the row's own block. -/
abbrev Off (base : Nat) (P : Option Addr) (i : Nat) : Prop := base ≤ i ∧ ∀ p, P = some p → i ≠ p.block
theorem off_keep {wr w4 w5 : World} {base sz n c : Nat} {A P : Option Addr} {xs : List Value} {m pc g : Nat} (h : SlR wr (Off base P) sz A n c xs) (h4 : Below wr.heap.size wr w4) (hg : w4.grownBy w5 (Value.slice P m pc).ownBlock) (hat : (Value.slice P m pc).ownBlock = some g ∨ g = w4.heap.size) :
    SlR w5 (Off base (some ⟨g, 0, none⟩)) sz A n c xs := by
  have K5 : Kp (fun i => ∃ p, P = some p ∧ p.block = i) wr w5 := (Kp.of_below h4).grown hg (fun k hk => .inl (own_none.1 hk))
  have hk := h.keep K5 (fun i hi f => by
    obtain ⟨p, hp, he⟩ := f
    exact hi.2 p hp he.symm)
  refine ⟨hk.sl, fun hn ad ea => ⟨(hk.at_ hn ad ea).1, fun p hp => ?_⟩⟩
  cases hp
  show ad.block ≠ g
  obtain ⟨b, off, e, hb, _⟩ := h.sl.at_ hn
  rw [ea] at e
  cases e
  show b ≠ g
  have s4 := h4.size
  rcases hat with h1 | h1
  · obtain ⟨p, hp, he⟩ := own_none.1 h1
    have := (h.at_ hn _ ea).2 p hp
    intro e2
    exact this (e2.trans he.symm)
  · omega
theorem off_new {wr w3 w4 w5 : World} {base e sz n c : Nat} {A P : Option Addr} {xs : List Value} {m pc g : Nat} (own : w3.ownsRow wr.heap.size e sz (.slice A n c) n xs) (hbs : base ≤ wr.heap.size) (h3 : Below wr.heap.size wr w3) (h4 : Below w3.heap.size w3 w4) (hP : ∀ p, P = some p → p.block < wr.heap.size)
    (hg : w4.grownBy w5 (Value.slice P m pc).ownBlock) (hat : (Value.slice P m pc).ownBlock = some g ∨ g = w4.heap.size) : SlR w5 (Off base (some ⟨g, 0, none⟩)) sz A n c xs := by
  have s3 := h3.size
  have s4 := h4.size
  have o4 := own_below own (Nat.le_refl _) h4
  have K4 : Kp (fun i => ∃ p, P = some p ∧ p.block = i) w4 w5 := (Kp.refl _ _).grown hg (fun k hk => .inl (own_none.1 hk))
  have o5 := own_keep o4 K4 (fun i hi f => by
    obtain ⟨p, hp, he⟩ := f
    have := hP p hp
    have := (own_lt own hi).1
    omega)
  refine ⟨Sl.of_own o5, fun hn ad ea => ⟨?_, fun p hp => ?_⟩⟩
  · have := (own_lt own (g := ad.block) (by rw [ea]; rfl)).1
    show base ≤ ad.block
    omega
  · cases hp
    show ad.block ≠ g
    have := own_lt own (g := ad.block) (by rw [ea]; rfl)
    rcases hat with h1 | h1
    · obtain ⟨p, hp, he⟩ := own_none.1 h1
      have := hP p hp
      omega
    · omega
/-- A growing row of notices of the call's own, each with memory of the call's own. -/
structure Hn (base : Nat) (w0 : World) (M : List It) (P : Option Addr) (pc : Nat) (wr : World) : Prop where
  row : wr.ownsRow base 54 10 (.slice P M.length pc) M.length (itCells M)
  its : ∀ x ∈ M, SlR wr (Off base P) 1 x.A x.n.a.cells.length x.c (ints x.n.a.cells) ∧ SlR wr (Off base P) 2 x.S x.n.sg.length x.sc (keyCells x.n.sg)
  bel : Below base w0 wr
theorem Hn.start {base : Nat} {w0 wr : World} (h : Below base w0 wr) : Hn base w0 [] none 0 wr := ⟨World.ownsRow_nil _ _ _ _, by simp, h⟩
theorem Hn.step {base : Nat} {w0 wr w3 w4 w5 : World} {M : List It} {P : Option Addr} {pc : Nat} {n : Ntc} {A : Option Addr} {c : Nat} {S : Option Addr} {sc g cap : Nat} (h : Hn base w0 M P pc wr) (hbs : base ≤ wr.heap.size) (h3 : Below wr.heap.size wr w3) (own : ARow w3 wr.heap.size n.a A c)
    (own2 : w3.ownsRow wr.heap.size 106 2 (.slice S n.sg.length sc) n.sg.length (keyCells n.sg)) (h4 : Below w3.heap.size w3 w4)
    (hown : w5.ownsRow base 54 10 (.slice (some ⟨g, 0, none⟩) (M.length + 1) cap) (M.length + 1) (itCells M ++ ntL n.a A c S n.sg.length sc)) (hg : w4.grownBy w5 (Value.slice P M.length pc).ownBlock) (hat : (Value.slice P M.length pc).ownBlock = some g ∨ g = w4.heap.size) :
    Hn base w0 (M ++ [⟨n, A, c, S, sc⟩]) (some ⟨g, 0, none⟩) cap w5 := by
  have s3 := h3.size
  have B4 : Below wr.heap.size wr w4 := h3.trans (h4.mono s3)
  have hPlt : ∀ p, P = some p → base ≤ p.block ∧ p.block < wr.heap.size := fun p hp => own_lt h.row (g := p.block) (by rw [hp]; rfl)
  refine ⟨?_, fun x hx => ?_, ?_⟩
  · rw [List.length_append, itCells_snoc]
    exact hown
  · rcases List.mem_append.1 hx with hx | hx
    · exact ⟨off_keep (h.its x hx).1 B4 hg hat, off_keep (h.its x hx).2 B4 hg hat⟩
    · obtain rfl := List.mem_singleton.1 hx
      exact ⟨off_new own hbs h3 h4 (fun p hp => (hPlt p hp).2) hg hat, off_new own2 hbs h3 h4 (fun p hp => (hPlt p hp).2) hg hat⟩
  · have K5 : Kp (fun i => ∃ p, P = some p ∧ p.block = i) wr w5 := (Kp.of_below B4).grown hg (fun k hk => .inl (own_none.1 hk))
    exact h.bel.trans (K5.below hbs (fun i ⟨p, hp, he⟩ => by have := (hPlt p hp).1; omega))
/-- Notices handed back in memory of the call's own. -/
def OwnNs (base : Nat) (ns : List Ntc) (w : World) (e : Ending) (w' : World) : Prop :=
  ∃ (L : List It) (P : Option Addr) (pc : Nat), L.map (·.n) = ns ∧ e = .returned (.slice P L.length pc) ∧ w'.ownsRow base 54 10 (.slice P L.length pc) L.length (itCells L) ∧ (∀ x ∈ L, SlR w' (fun i => base ≤ i) 1 x.A x.n.a.cells.length x.c (ints x.n.a.cells) ∧ SlR w' (fun i => base ≤ i) 2 x.S x.n.sg.length x.sc (keyCells x.n.sg)) ∧ Below base w w'
def NsRel (w : World) (L : List It) (o i : Value) (wr : World) : Prop :=
  ∃ (k : Nat) (M : List It) (P : Option Addr) (pc : Nat), k ≤ L.length ∧ Hid (M.length = k) ∧ Hid (M.map (·.n) = (L.take k).map (·.n)) ∧ o = .slice P M.length pc ∧ i = .int .i64 k ∧ Hn w.heap.size w M P pc wr
theorem ns_next {L M : List It} {k : Nat} {A : Option Addr} {c : Nat} {S : Option Addr} {sc : Nat} (hk : k < L.length) (h : M.map (·.n) = (L.take k).map (·.n)) : (M ++ [(⟨L[k].n, A, c, S, sc⟩ : It)]).map (·.n) = (L.take (k + 1)).map (·.n) := by
  rw [List.take_succ_eq_append_getElem hk, List.map_append, List.map_append, h]
  rfl
set_option maxRecDepth 100000 in
theorem notices_nil (w : World) : Calls Tryz.prog 29 #[.pointer none] w fun e w' => e = .returned (.slice none 0 0) ∧ Below w.heap.size w w' := by
  go_enter Tryz.func29, Tryz.ntmps29
  go_wp2_with (go_at_call 57; refine (none_nil _).mono ?_; rintro e w' ⟨rfl, rfl⟩)
  go_ret
  exact ⟨rfl, (by repeat (first | exact Below.refl _ _ | assumption | refine below_drewN ?_ _ | refine Below.drew ?_ | refine Below.setCell ?_ (by first | omega | (simp; done) | (simp; omega)) _ | refine Below.alloc ?_ (by first | omega | (simp; done) | (simp; omega)) _))⟩
set_option maxRecDepth 100000 in
set_option maxHeartbeats 4000000 in
theorem Notices_ (T : Nat → Prop) (b : Nat) (ks : List (Int × Int)) (q : Int) (ns : List Ntc) (w : World) (h : Bd w T b ks q ns) :
    Calls Tryz.prog 29 #[.pointer (some ⟨b, 0, none⟩)] w (OwnNs w.heap.size ns w) := by
  obtain ⟨R, K, kc, L, N, nc, mb, G, h, hns, _⟩ := h
  obtain ⟨i0, hi, hz0, hz1, hz2⟩ := info_parts infoNtc
  have c2 := h.c2
  have c3 := h.c3
  have hlt := h.lt.1
  have hmx := h.max
  have HNS := Lib.hid hns
  have HI := Lib.hid h.its
  have HO := Lib.hid (Sl.of_own h.row)
  clear h hns
  go_enter Tryz.func29, Tryz.ntmps29
  go_wp2_with (go_at_call 57; refine (none_ b mb _ (by simp [c3])).mono ?_; rintro e w' ⟨rfl, rfl⟩)
  go_loopw [3, 13] (fun o i wr => NsRel w L o i wr) (fun _ i _ => L.length - (intOf i).toNat)
  case atStart => exact ⟨0, [], none, 0, Nat.zero_le _, rfl, rfl, rfl, rfl, Hn.start (Below.refl _ _)⟩
  case round =>
    obtain ⟨k, M, P, pc, hk, hMk, hM, rfl, rfl, hs⟩ := hrel
    have HS := Lib.hid hs
    have HB := Lib.hid hs.bel
    have hsz := hs.bel.size
    clear hs
    by_cases hlt3 : k < L.length
    · obtain ⟨fb, off, rfl, hfb, y0, y1, y2, y3, y4, y5, y6, y7, y8, y9⟩ := (HO.out.below HB.out).it_at hlt3
      have i0' : (0 : Int) ≤ (k : Int) := by omega
      have i1' : (k : Int) < (L.length : Int) := by omega
      have hb2 : fb < wr.heap.size := by omega
      have hit := HI.out L[k] (List.getElem_mem hlt3)
      have HA := Lib.hid (show NIn wr L[k].n L[k].A L[k].c L[k].S L[k].sc from ⟨⟨okA_ev hit.ok, (hit.cells.keep (F := fun _ => False) (Kp.of_below HB.out) (fun _ _ f => f)).sl⟩, (hit.sigs.keep (F := fun _ => False) (Kp.of_below HB.out) (fun _ _ f => f)).sl⟩)
      have hsh := okA_short hit.ok
      have hsh2 : L[k].n.sg.length * 16 ≤ 140737488355328 := by have := hit.few; omega
      have HX := Lib.hid (fun (A : Option Addr) (c : Nat) (S : Option Addr) (sc : Nat) => ns_next (A := A) (c := c) (S := S) (sc := sc) hlt3 hM.out)
      clear hit
      obtain ⟨x, hx⟩ : ∃ x, x = L[k] := ⟨_, rfl⟩
      rw [← hx] at y0 y1 y2 y3 y4 y5 y6 y7 y8 y9 HA hsh hsh2 HX
      clear hx
      have hml : M.length ≤ 256 := by have := hMk.out; omega
      go_wp2_with fail
      refine (notice_ x.n x.A x.c x.S x.sc _ (HA.out.below (by (repeat (first | exact Below.refl _ _ | assumption | refine below_drewN ?_ _ | refine Below.drew ?_ | refine Below.setCell ?_ (by first | omega | (simp; done) | (simp; omega)) _ | refine Below.alloc ?_ (by first | omega | (simp; done) | (simp; omega)) _)))) hsh hsh2).mono ?_
      rintro e w3 ⟨A', c', S', sc', rfl, hown3, hown4, hb3⟩
      have HO3 := Lib.hid (own_more (base' := wr.heap.size) hown3 (by simp))
      have HO4 := Lib.hid (own_more (base' := wr.heap.size) hown4 (by simp))
      have HB3 := Lib.hid ((show Below wr.heap.size wr _ from (by (repeat (first | exact Below.refl _ _ | assumption | refine below_drewN ?_ _ | refine Below.drew ?_ | refine Below.setCell ?_ (by first | omega | (simp; done) | (simp; omega)) _ | refine Below.alloc ?_ (by first | omega | (simp; done) | (simp; omega)) _)))).trans (hb3.mono (by first | omega | (simp; done) | (simp; omega))))
      have hz3 := hb3.size
      simp at hz3
      have l0 : wr.heap.size < w3.heap.size := by omega
      obtain ⟨hcw3, hfw3⟩ := bcell hb3
      clear hb3 hown3 hown4
      go_wp2_with (at_builtin; refine wpList_append_lies _ rfl _ _ 25 rfl w.heap.size 54 i0 (.agg #[.string ⟨#[]⟩, .int .i64 0, .int .i64 0, .int .i64 0, .int .i64 0, .int .i64 0, .slice none 0 0, .bool false, .int .i64 0, .slice none 0 0]) 10 120 Tryz.underlying25 hi hz0 hz1 hz2 rfl (by decide) (.slice P M.length pc) M.length (itCells M) rfl (own_below HS.out.row (Nat.le_refl _) (by repeat (first | exact Below.refl _ _ | exact (HB3).out | refine below_drewN ?_ _ | refine Below.drew ?_ | refine Below.setCell ?_ (by first | omega | (simp; done) | (simp; omega)) _ | refine Below.alloc ?_ (by first | omega | (simp; done) | (simp; omega)) _))) _ 1 1 (ntL x.n.a A' c' S' x.n.sg.length sc') rfl rfl (World.news_of_block (heap_alloc_new w3 _)) (ntL_one _ _ _ _ _ _) (by decide) (by unfold maxLen; omega) (by omega) (by simp; omega) _ rfl ?_; intro g5 cap w5 hown5 hg5 hat5 hlt5)
      go_roundw
      case rel => exact ⟨k + 1, M ++ [⟨x.n, A', c', S', sc'⟩], some ⟨g5, 0, none⟩, cap, by omega, (by show _ = _; rw [List.length_append, hMk.out]; rfl), Lib.hid (HX.out A' c' S' sc'), by rw [List.length_append]; rfl, by go_num, HS.out.step hsz HB3.out HO3.out HO4.out ((Below.refl _ _).alloc (Nat.le_refl _) _) hown5 hg5 hat5⟩
      case measure => simp [intOf]; omega
    · obtain rfl : k = L.length := by omega
      go_wp2_with fail
      go_ret
      refine ⟨M, P, pc, ?_, rfl, HS.out.row, fun x hx => ⟨((HS.out.its x hx).1).mono (fun _ hi => hi.1), ((HS.out.its x hx).2).mono (fun _ hi => hi.1)⟩, HB.out⟩
      rw [hM.out, List.take_of_length_le (Nat.le_refl _)]
      exact HNS.out
end Go.Proofs.YtohfofecbdfkgaaGreatDoor
