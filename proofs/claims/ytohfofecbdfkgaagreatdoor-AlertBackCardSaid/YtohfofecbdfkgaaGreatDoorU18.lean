/-
  The walks of filtered, with the closures of events and of Settle.
-/
import Derived.Test.YtohfofecbdfkgaaGreatDoorU17
namespace Go.Proofs.YtohfofecbdfkgaaGreatDoor
open Go.RowKit Al

/-- A roll that lies in a block of its own. -/
structure RolA (w : World) (g : Nat) (ks : List (Int × Int)) (q : Int) (K : Option Addr) (kc : Nat) : Prop where
  rin : Rin w ks K kc
  rok : rollOk ks q = true
  c0 : w.cell? ⟨g, 0, none⟩ = some (.slice K ks.length kc)
  c1 : w.cell? ⟨g, 1, none⟩ = some (.int .i64 q)
  lt : g < w.heap.size
  rdy : Rdy w
theorem RolA.below {w w' : World} {g : Nat} {ks : List (Int × Int)} {q : Int} {K : Option Addr} {kc : Nat} (h : RolA w g ks q K kc) (hb : Below w.heap.size w w') : RolA w' g ks q K kc :=
  ⟨Rin.below h.rin hb, h.rok, (hb.cell (p := ⟨g, 0, none⟩) h.lt).trans h.c0, (hb.cell (p := ⟨g, 1, none⟩) h.lt).trans h.c1, Nat.lt_of_lt_of_le h.lt hb.size, h.rdy.below hb⟩

set_option maxRecDepth 100000 in
theorem evs1_ (ks : List (Int × Int)) (q : Int) (K : Option Addr) (kc g : Nat) (x : It) (v : Bool) (w : World) (hv : (noticeE ks q x.n == 0) = v) (hr : RolA w g ks q K kc) (hn : NIn w x.n x.A x.c x.S x.sc) :
    Calls Tryz.prog 90 #[x.n.val x.A x.c x.S x.sc, .pointer (some ⟨g, 0, none⟩)] w fun e w' => e = .returned (.bool v) ∧ Below w.heap.size w w' := by
  have c0 := hr.c0
  have c1 := hr.c1
  have hlt := hr.lt
  have hlt2 : g < w.heap.size + 1 := by omega
  have HR := Lib.hid hr
  have HN := Lib.hid hn
  obtain ⟨u, hu⟩ : ∃ u, noticeE ks q x.n = u := ⟨_, rfl⟩
  have HU := Lib.hid hu
  rw [hu] at hv
  clear hr hn hu
  go_enter Tryz.func90, Tryz.ntmps90
  go_wp2_with (go_at_call 58; refine (rollCheck_is ks q K kc x.n x.A x.c x.S x.sc u _ HU.out (HR.out.rin.below (by (repeat (first | exact Below.refl _ _ | assumption | refine below_drewN ?_ _ | refine Below.drew ?_ | refine Below.setCell ?_ (by first | omega | (simp; done) | (simp; omega)) _ | refine Below.alloc ?_ (by first | omega | (simp; done) | (simp; omega)) _)))) HR.out.rok (HN.out.below (by (repeat (first | exact Below.refl _ _ | assumption | refine below_drewN ?_ _ | refine Below.drew ?_ | refine Below.setCell ?_ (by first | omega | (simp; done) | (simp; omega)) _ | refine Below.alloc ?_ (by first | omega | (simp; done) | (simp; omega)) _)))) (HR.out.rdy.below (by (repeat (first | exact Below.refl _ _ | assumption | refine below_drewN ?_ _ | refine Below.drew ?_ | refine Below.setCell ?_ (by first | omega | (simp; done) | (simp; omega)) _ | refine Below.alloc ?_ (by first | omega | (simp; done) | (simp; omega)) _))))).mono ?_; rintro e w3 ⟨rfl, hb3⟩; have H3 := Lib.hid ((show Below w.heap.size w _ from (by repeat (first | exact Below.refl _ _ | assumption | refine below_drewN ?_ _ | refine Below.drew ?_ | refine Below.setCell ?_ (by first | omega | (simp; done) | (simp; omega)) _ | refine Below.alloc ?_ (by first | omega | (simp; done) | (simp; omega)) _))).trans (hb3.mono (by first | omega | (simp; done) | (simp; omega)))); clear hb3)
  go_ret
  exact ⟨ret_bool (by first | exact hv | simp [← hv]), H3.out⟩
set_option maxRecDepth 100000 in
theorem stl1_ (x : It) (v : Bool) (w : World) (hv : x.n.a.wd = v) :
    Calls Tryz.prog 45 #[x.n.val x.A x.c x.S x.sc] w fun e w' => e = .returned (.bool v) ∧ Below w.heap.size w w' := by
  subst hv
  go_enter Tryz.func45, Tryz.ntmps45
  go_wp2_with fail
  go_ret
  exact ⟨rfl, (by repeat (first | exact Below.refl _ _ | assumption | refine below_drewN ?_ _ | refine Below.drew ?_ | refine Below.setCell ?_ (by first | omega | (simp; done) | (simp; omega)) _ | refine Below.alloc ?_ (by first | omega | (simp; done) | (simp; omega)) _))⟩

set_option maxRecDepth 100000 in
set_option maxHeartbeats 4000000 in
theorem filtEv_ (ks : List (Int × Int)) (q : Int) (K : Option Addr) (kc g : Nat) (L : List It) (N : Option Addr) (nc : Nat) (w : World) (hL : Sl w w.heap.size 10 N L.length nc (itCells L)) (hI : ∀ x ∈ L, NIn w x.n x.A x.c x.S x.sc) (hlen : L.length ≤ 1048576) (hr : RolA w g ks q K kc) :
    Calls Tryz.prog 44 #[.slice N L.length nc, .func (.func 90) #[] #[.pointer (some ⟨g, 0, none⟩)]] w (OwnIts (L.filter fun x => noticeE ks q x.n == 0) w) := by
  obtain ⟨i0, hi, hz0, hz1, hz2⟩ := info_parts infoNtc
  have HL := Lib.hid hL
  have HI := Lib.hid hI
  have HR := Lib.hid hr
  clear hr
  clear hL hI
  go_enter Tryz.func44, Tryz.ntmps44
  go_wp2_with fail
  go_loopw [5, 10] (fun o i wr => FlRel w w.heap.size L (fun x => noticeE ks q x.n == 0) o i wr) (fun _ i _ => L.length - (intOf i).toNat)
  case atStart => exact ⟨0, none, 0, Nat.zero_le _, rfl, rfl, World.ownsRow_nil _ _ _ _, Below.refl _ _⟩
  case round =>
    obtain ⟨k, A, c, hk, rfl, rfl, hown, hB⟩ := hrel
    have hsz := hB.size
    have HB := Lib.hid hB
    have HO := Lib.hid hown
    clear hB hown
    by_cases hlt : k < L.length
    · obtain ⟨b, off, rfl, hb, y0, y1, y2, y3, y4, y5, y6, y7, y8, y9⟩ := (HL.out.below HB.out).it_at hlt
      have i0' : (0 : Int) ≤ (k : Int) := by omega
      have i1' : (k : Int) < (L.length : Int) := by omega
      have hb2 : b < wr.heap.size := by omega
      have hll := flL_len (fun x => noticeE ks q x.n == 0) L k
      have HN := Lib.hid (HI.out L[k] (List.getElem_mem hlt))
      obtain ⟨b0, hb0⟩ : ∃ b0, (fun x : It => noticeE ks q x.n == 0) L[k] = b0 := ⟨_, rfl⟩
      have HV := Lib.hid hb0
      cases b0 with
      | true =>
        have HX := Lib.hid (flL_yes (p := fun x => noticeE ks q x.n == 0) hlt HV.out)
        obtain ⟨fl, hfl⟩ : ∃ fl, fl = flL (fun x => noticeE ks q x.n == 0) L k := ⟨_, rfl⟩
        rw [← hfl] at hll HO
        have HFL := Lib.hid hfl
        have hfs : (flL (fun x => noticeE ks q x.n == 0) L k).length = fl.length := by rw [hfl]
        rw [hfs]
        obtain ⟨x, hx⟩ : ∃ x, x = L[k] := ⟨_, rfl⟩
        rw [← hx] at y0 y1 y2 y3 y4 y5 y6 y7 y8 y9 HN HV
        have HXX := Lib.hid hx
        clear hb0 hfl hfs hx
        go_wp2_with (first
          | (go_at_call 90; refine (evs1_ ks q K kc g x true _ HV.out (HR.out.below (Below.trans HB.out (by (repeat (first | exact Below.refl _ _ | assumption | refine below_drewN ?_ _ | refine Below.drew ?_ | refine Below.setCell ?_ (by first | omega | (simp; done) | (simp; omega)) _ | refine Below.alloc ?_ (by first | omega | (simp; done) | (simp; omega)) _))))) (HN.out.below (Below.trans HB.out (by (repeat (first | exact Below.refl _ _ | assumption | refine below_drewN ?_ _ | refine Below.drew ?_ | refine Below.setCell ?_ (by first | omega | (simp; done) | (simp; omega)) _ | refine Below.alloc ?_ (by first | omega | (simp; done) | (simp; omega)) _)))))).mono ?_; rintro e w3 ⟨rfl, hb3⟩; obtain ⟨hcw3, hfw3⟩ := bcell hb3; have hz3 := hb3.size; (try simp at hz3); have HB3 := Lib.hid ((show Below wr.heap.size wr _ from (by repeat (first | exact Below.refl _ _ | assumption | refine below_drewN ?_ _ | refine Below.drew ?_ | refine Below.setCell ?_ (by first | omega | (simp; done) | (simp; omega)) _ | refine Below.alloc ?_ (by first | omega | (simp; done) | (simp; omega)) _))).trans (hb3.mono (by first | omega | (simp; done) | (simp; omega)))); clear hb3; have l0 : wr.heap.size < w3.heap.size := (by omega))
          | (at_builtin; refine wpList_append_lies _ rfl _ _ 25 rfl w.heap.size 54 i0 (.agg #[.string ⟨#[]⟩, .int .i64 0, .int .i64 0, .int .i64 0, .int .i64 0, .int .i64 0, .slice none 0 0, .bool false, .int .i64 0, .slice none 0 0]) 10 120 Tryz.underlying25 hi hz0 hz1 hz2 rfl (by decide) (.slice A fl.length c) fl.length (itCells fl) rfl (own_below HO.out (Nat.le_refl _) (by repeat (first | exact Below.refl _ _ | exact (HB3).out | refine below_drewN ?_ _ | refine Below.drew ?_ | refine Below.setCell ?_ (by first | omega | (simp; done) | (simp; omega)) _ | refine Below.alloc ?_ (by first | omega | (simp; done) | (simp; omega)) _))) _ 1 1 x.lst rfl rfl (World.news_of_block (heap_alloc_new w3 _)) (ntL_one _ _ _ _ _ _) (by decide) (by unfold maxLen; omega) (by omega) (by simp; omega) _ rfl ?_; intro g5 cap w5 hown5 hg5 hat5 hlt5))
        go_roundw
        case rel =>
          have e1 := HFL.out
          have e2 := HXX.out
          subst e1 e2
          exact fl_step hlt HX.out hown5 (HB.out.trans (Below.mono (by repeat (first | exact Below.refl _ _ | exact (HB3).out | refine below_drewN ?_ _ | refine Below.drew ?_ | refine Below.setCell ?_ (by first | omega | (simp; done) | (simp; omega)) _ | refine Below.alloc ?_ (by first | omega | (simp; done) | (simp; omega)) _)) hsz)) (by simp; omega) hg5 (fun g hg => own_base HO.out hg)
        case measure => simp [intOf]; omega
      | false =>
        have HX := Lib.hid (flL_no (p := fun x => noticeE ks q x.n == 0) hlt HV.out)
        obtain ⟨x, hx⟩ : ∃ x, x = L[k] := ⟨_, rfl⟩
        rw [← hx] at y0 y1 y2 y3 y4 y5 y6 y7 y8 y9 HN HV
        clear hb0 hx
        go_wp2_with (go_at_call 90; refine (evs1_ ks q K kc g x false _ HV.out (HR.out.below (Below.trans HB.out (by (repeat (first | exact Below.refl _ _ | assumption | refine below_drewN ?_ _ | refine Below.drew ?_ | refine Below.setCell ?_ (by first | omega | (simp; done) | (simp; omega)) _ | refine Below.alloc ?_ (by first | omega | (simp; done) | (simp; omega)) _))))) (HN.out.below (Below.trans HB.out (by (repeat (first | exact Below.refl _ _ | assumption | refine below_drewN ?_ _ | refine Below.drew ?_ | refine Below.setCell ?_ (by first | omega | (simp; done) | (simp; omega)) _ | refine Below.alloc ?_ (by first | omega | (simp; done) | (simp; omega)) _)))))).mono ?_; rintro e w3 ⟨rfl, hb3⟩; obtain ⟨hcw3, hfw3⟩ := bcell hb3; have hz3 := hb3.size; (try simp at hz3); have HB3 := Lib.hid ((show Below wr.heap.size wr _ from (by repeat (first | exact Below.refl _ _ | assumption | refine below_drewN ?_ _ | refine Below.drew ?_ | refine Below.setCell ?_ (by first | omega | (simp; done) | (simp; omega)) _ | refine Below.alloc ?_ (by first | omega | (simp; done) | (simp; omega)) _))).trans (hb3.mono (by first | omega | (simp; done) | (simp; omega)))); clear hb3; have l0 : wr.heap.size < w3.heap.size := (by omega))
        go_roundw
        case rel =>
          refine ⟨k + 1, A, c, by omega, ?_, by go_num, ?_, HB.out.trans (HB3.out.mono hsz)⟩
          · rw [HX.out]
          · rw [HX.out]
            exact own_below HO.out (Nat.le_refl _) HB3.out
        case measure => simp [intOf]; omega
    · obtain rfl : k = L.length := by omega
      rw [flL_end] at *
      go_wp2_with fail
      go_ret
      exact ⟨A, c, rfl, HO.out, HB.out⟩

set_option maxRecDepth 100000 in
set_option maxHeartbeats 4000000 in
theorem filtWd_ (L : List It) (N : Option Addr) (nc : Nat) (w : World) (hL : Sl w w.heap.size 10 N L.length nc (itCells L)) (hI : ∀ x ∈ L, NIn w x.n x.A x.c x.S x.sc) (hlen : L.length ≤ 1048576) :
    Calls Tryz.prog 44 #[.slice N L.length nc, .func (.func 45) #[] #[]] w (OwnIts (L.filter fun x => x.n.a.wd) w) := by
  obtain ⟨i0, hi, hz0, hz1, hz2⟩ := info_parts infoNtc
  have HL := Lib.hid hL
  have HI := Lib.hid hI
  clear hL hI
  go_enter Tryz.func44, Tryz.ntmps44
  go_wp2_with fail
  go_loopw [5, 10] (fun o i wr => FlRel w w.heap.size L (fun x => x.n.a.wd) o i wr) (fun _ i _ => L.length - (intOf i).toNat)
  case atStart => exact ⟨0, none, 0, Nat.zero_le _, rfl, rfl, World.ownsRow_nil _ _ _ _, Below.refl _ _⟩
  case round =>
    obtain ⟨k, A, c, hk, rfl, rfl, hown, hB⟩ := hrel
    have hsz := hB.size
    have HB := Lib.hid hB
    have HO := Lib.hid hown
    clear hB hown
    by_cases hlt : k < L.length
    · obtain ⟨b, off, rfl, hb, y0, y1, y2, y3, y4, y5, y6, y7, y8, y9⟩ := (HL.out.below HB.out).it_at hlt
      have i0' : (0 : Int) ≤ (k : Int) := by omega
      have i1' : (k : Int) < (L.length : Int) := by omega
      have hb2 : b < wr.heap.size := by omega
      have hll := flL_len (fun x => x.n.a.wd) L k
      have HN := Lib.hid (HI.out L[k] (List.getElem_mem hlt))
      obtain ⟨b0, hb0⟩ : ∃ b0, (fun x : It => x.n.a.wd) L[k] = b0 := ⟨_, rfl⟩
      have HV := Lib.hid hb0
      cases b0 with
      | true =>
        have HX := Lib.hid (flL_yes (p := fun x => x.n.a.wd) hlt HV.out)
        obtain ⟨fl, hfl⟩ : ∃ fl, fl = flL (fun x => x.n.a.wd) L k := ⟨_, rfl⟩
        rw [← hfl] at hll HO
        have HFL := Lib.hid hfl
        have hfs : (flL (fun x => x.n.a.wd) L k).length = fl.length := by rw [hfl]
        rw [hfs]
        obtain ⟨x, hx⟩ : ∃ x, x = L[k] := ⟨_, rfl⟩
        rw [← hx] at y0 y1 y2 y3 y4 y5 y6 y7 y8 y9 HN HV
        have HXX := Lib.hid hx
        clear hb0 hfl hfs hx
        go_wp2_with (first
          | (go_at_call 45; refine (stl1_ x true _ HV.out).mono ?_; rintro e w3 ⟨rfl, hb3⟩; obtain ⟨hcw3, hfw3⟩ := bcell hb3; have hz3 := hb3.size; (try simp at hz3); have HB3 := Lib.hid ((show Below wr.heap.size wr _ from (by repeat (first | exact Below.refl _ _ | assumption | refine below_drewN ?_ _ | refine Below.drew ?_ | refine Below.setCell ?_ (by first | omega | (simp; done) | (simp; omega)) _ | refine Below.alloc ?_ (by first | omega | (simp; done) | (simp; omega)) _))).trans (hb3.mono (by first | omega | (simp; done) | (simp; omega)))); clear hb3; have l0 : wr.heap.size < w3.heap.size := (by omega))
          | (at_builtin; refine wpList_append_lies _ rfl _ _ 25 rfl w.heap.size 54 i0 (.agg #[.string ⟨#[]⟩, .int .i64 0, .int .i64 0, .int .i64 0, .int .i64 0, .int .i64 0, .slice none 0 0, .bool false, .int .i64 0, .slice none 0 0]) 10 120 Tryz.underlying25 hi hz0 hz1 hz2 rfl (by decide) (.slice A fl.length c) fl.length (itCells fl) rfl (own_below HO.out (Nat.le_refl _) (by repeat (first | exact Below.refl _ _ | exact (HB3).out | refine below_drewN ?_ _ | refine Below.drew ?_ | refine Below.setCell ?_ (by first | omega | (simp; done) | (simp; omega)) _ | refine Below.alloc ?_ (by first | omega | (simp; done) | (simp; omega)) _))) _ 1 1 x.lst rfl rfl (World.news_of_block (heap_alloc_new w3 _)) (ntL_one _ _ _ _ _ _) (by decide) (by unfold maxLen; omega) (by omega) (by simp; omega) _ rfl ?_; intro g5 cap w5 hown5 hg5 hat5 hlt5))
        go_roundw
        case rel =>
          have e1 := HFL.out
          have e2 := HXX.out
          subst e1 e2
          exact fl_step hlt HX.out hown5 (HB.out.trans (Below.mono (by repeat (first | exact Below.refl _ _ | exact (HB3).out | refine below_drewN ?_ _ | refine Below.drew ?_ | refine Below.setCell ?_ (by first | omega | (simp; done) | (simp; omega)) _ | refine Below.alloc ?_ (by first | omega | (simp; done) | (simp; omega)) _)) hsz)) (by simp; omega) hg5 (fun g hg => own_base HO.out hg)
        case measure => simp [intOf]; omega
      | false =>
        have HX := Lib.hid (flL_no (p := fun x => x.n.a.wd) hlt HV.out)
        obtain ⟨x, hx⟩ : ∃ x, x = L[k] := ⟨_, rfl⟩
        rw [← hx] at y0 y1 y2 y3 y4 y5 y6 y7 y8 y9 HN HV
        clear hb0 hx
        go_wp2_with (go_at_call 45; refine (stl1_ x false _ HV.out).mono ?_; rintro e w3 ⟨rfl, hb3⟩; obtain ⟨hcw3, hfw3⟩ := bcell hb3; have hz3 := hb3.size; (try simp at hz3); have HB3 := Lib.hid ((show Below wr.heap.size wr _ from (by repeat (first | exact Below.refl _ _ | assumption | refine below_drewN ?_ _ | refine Below.drew ?_ | refine Below.setCell ?_ (by first | omega | (simp; done) | (simp; omega)) _ | refine Below.alloc ?_ (by first | omega | (simp; done) | (simp; omega)) _))).trans (hb3.mono (by first | omega | (simp; done) | (simp; omega)))); clear hb3; have l0 : wr.heap.size < w3.heap.size := (by omega))
        go_roundw
        case rel =>
          refine ⟨k + 1, A, c, by omega, ?_, by go_num, ?_, HB.out.trans (HB3.out.mono hsz)⟩
          · rw [HX.out]
          · rw [HX.out]
            exact own_below HO.out (Nat.le_refl _) HB3.out
        case measure => simp [intOf]; omega
    · obtain rfl : k = L.length := by omega
      rw [flL_end] at *
      go_wp2_with fail
      go_ret
      exact ⟨A, c, rfl, HO.out, HB.out⟩

end Go.Proofs.YtohfofecbdfkgaaGreatDoor

/-
  The walks of FindWord and events, of the specification.
-/
namespace Go.Proofs.YtohfofecbdfkgaaGreatDoor
open Go.RowKit Al

def strs (l : List ByteArray) : List Value := l.map Value.string
theorem strs_len (l : List ByteArray) : (strs l).length = l.length := by simp [strs]
theorem strs_one (l : List ByteArray) : ∀ u ∈ strs l, u.oneCell' = true := by
  intro u hu
  obtain ⟨s, _, rfl⟩ := List.mem_map.1 hu
  rfl
theorem Sl.str_at {w : World} {B n c : Nat} {A : Option Addr} {l : List ByteArray} (h : Sl w B 1 A n c (strs l)) {k : Nat} (hl : k < l.length) : ∃ b off, A = some ⟨b, off, none⟩ ∧ b < B ∧ w.cell? ⟨b, off + k, none⟩ = some (.string l[k]) := by
  have hn : n = l.length := by have := h.len; rw [strs_len] at this; omega
  obtain ⟨b, off, e, hb, hc⟩ := h.at_ (by omega)
  exact ⟨b, off, e, hb, hc k _ (by simp [strs, hl])⟩
/-- Is the word among these? -/
def wordIn (s : ByteArray) (l : List ByteArray) : Bool := l.any fun x => x.toList == s.toList
set_option maxRecDepth 100000 in
set_option maxHeartbeats 2000000 in
theorem findWord_ (l : List ByteArray) (A : Option Addr) (c : Nat) (s : ByteArray) (w : World) (h : Sl w w.heap.size 1 A l.length c (strs l)) :
    Calls Tryz.prog 102 #[.slice A l.length c, .string s] w fun e w' => ∃ v : Int, e = .returned (.int .i64 v) ∧ decide (0 ≤ v) = wordIn s l ∧ Below w.heap.size w w' := by
  have HL := Lib.hid h
  have hlen : l.length ≤ maxLen := Nat.le_trans h.cap h.max
  unfold maxLen at hlen
  clear h
  go_enter Tryz.func102, Tryz.ntmps102
  go_wp2_with fail
  go_loopw [5] (fun i wr => AnRel (fun x : ByteArray => x.toList == s.toList) l w i wr) (fun i _ => l.length - (intOf i).toNat)
  case atStart => exact ⟨0, Nat.zero_le _, rfl, (by show _ = _; simp), Below.refl _ _⟩
  case round =>
    obtain ⟨k, hk, rfl, HA, hB⟩ := hrel
    have hsz := hB.size
    have HB := Lib.hid hB
    clear hB
    by_cases hlt : k < l.length
    · obtain ⟨nb, off, rfl, hnb, y0⟩ := (HL.out.below HB.out).str_at hlt
      have i0 : (0 : Int) ≤ (k : Int) := by omega
      have i1 : (k : Int) < (l.length : Int) := by omega
      cases hv : (l[k].toList == s.toList) with
      | true =>
        have HX := Lib.hid (any_take_at (p := fun x : ByteArray => x.toList == s.toList) hlt hv)
        go_wp2_with fail
        go_ret
        exact ⟨k, rfl, by unfold wordIn; rw [HX.out]; exact decide_eq_true (by omega), HB.out⟩
      | false =>
        have HX := Lib.hid (any_take_no (p := fun x : ByteArray => x.toList == s.toList) hlt HA.out hv)
        go_wp2_with fail
        go_roundw
        case rel => exact ⟨k + 1, by omega, by go_num, HX, HB.out⟩
        case measure => simp [intOf]; omega
    · obtain rfl : k = l.length := by omega
      have HX := Lib.hid (any_end HA.out)
      go_wp2_with fail
      go_ret
      exact ⟨-1, rfl, by unfold wordIn; rw [HX.out]; rfl, HB.out⟩

/-- A word goes before the first one that is greater. -/
def insW (n : ByteArray) : List ByteArray → List ByteArray
  | [] => [n]
  | x :: r => if Op.bytesLess n.toList x.toList then n :: x :: r else x :: insW n r
/-- The same, word by word. -/
def stW (n : ByteArray) (st : List ByteArray × Bool) (x : ByteArray) : List ByteArray × Bool :=
  ((if !st.2 && Op.bytesLess n.toList x.toList then st.1 ++ [n] else st.1) ++ [x], st.2 || Op.bytesLess n.toList x.toList)
def runW (n : ByteArray) (out : List ByteArray) (k : Nat) : List ByteArray × Bool := (out.take k).foldl (stW n) ([], false)
theorem runW_next {n : ByteArray} {out : List ByteArray} {k : Nat} (h : k < out.length) : runW n out (k + 1) = stW n (runW n out k) out[k] := by
  unfold runW
  rw [List.take_succ_eq_append_getElem h, List.foldl_append]
  rfl
theorem fold_t (n : ByteArray) : ∀ (out acc : List ByteArray), out.foldl (stW n) (acc, true) = (acc ++ out, true)
  | [], acc => by simp
  | x :: r, acc => by
    rw [List.foldl_cons]
    have : stW n (acc, true) x = (acc ++ [x], true) := by simp [stW]
    rw [this, fold_t n r]
    simp
theorem fold_f (n : ByteArray) : ∀ (out acc : List ByteArray), (let r := out.foldl (stW n) (acc, false); if r.2 then r.1 else r.1 ++ [n]) = acc ++ insW n out
  | [], acc => by simp [insW]
  | x :: r, acc => by
    rw [List.foldl_cons]
    by_cases h : Op.bytesLess n.toList x.toList = true
    · have : stW n (acc, false) x = (acc ++ [n] ++ [x], true) := by simp [stW, h]
      rw [this, fold_t]
      simp [insW, h]
    · have : stW n (acc, false) x = (acc ++ [x], false) := by simp [stW, h]
      rw [this]
      have := fold_f n r (acc ++ [x])
      rw [this]
      simp [insW, h]
theorem runW_end (n : ByteArray) (out : List ByteArray) : (if (runW n out out.length).2 then (runW n out out.length).1 else (runW n out out.length).1 ++ [n]) = insW n out := by
  have := fold_f n out []
  unfold runW
  rw [List.take_length]
  simpa using this
theorem stW_len (n : ByteArray) (st : List ByteArray × Bool) (x : ByteArray) : (stW n st x).1.length ≤ st.1.length + 2 := by
  unfold stW
  split <;> simp
theorem runW_len (n : ByteArray) (out : List ByteArray) : ∀ k, k ≤ out.length → (runW n out k).1.length ≤ 2 * k
  | 0, _ => by simp [runW]
  | k + 1, h => by
    rw [runW_next (by omega)]
    have := stW_len n (runW n out k) out[k]
    have := runW_len n out k (by omega)
    omega
/-- The names of the events, in order. -/
def evW (L : List It) : List ByteArray := L.foldl (fun out x => if wordIn x.n.a.ev out then out else insW x.n.a.ev out) []
theorem insW_len (n : ByteArray) : ∀ out : List ByteArray, (insW n out).length = out.length + 1
  | [] => rfl
  | x :: r => by
    unfold insW
    split
    · rfl
    · rw [List.length_cons, insW_len n r, List.length_cons]
end Go.Proofs.YtohfofecbdfkgaaGreatDoor

/-
  The walk of events, of the specification: the names of the events, in order.
-/
namespace Go.Proofs.YtohfofecbdfkgaaGreatDoor
open Go.RowKit Al

theorem infoStr : (Tryz.prog.info? 9).map (fun i => (i.zero, i.size, i.bytes)) = some (some (.string ⟨#[]⟩), 1, 16) := by kernel_rfl
/-- Words in memory of the call's own. -/
def OwnW (l : List ByteArray) (w : World) (e : Ending) (w' : World) : Prop := ∃ A c, e = .returned (.slice A l.length c) ∧ w'.ownsRow w.heap.size 9 1 (.slice A l.length c) l.length (strs l) ∧ Below w.heap.size w w'
def EvRel (w : World) (L : List It) (o i : Value) (wr : World) : Prop :=
  ∃ (k : Nat) (out : List ByteArray) (A : Option Addr) (c : Nat), k ≤ L.length ∧ Hid (out = evW (L.take k)) ∧ out.length ≤ k ∧ o = .slice A out.length c ∧ i = .int .i64 k ∧ wr.ownsRow w.heap.size 9 1 (.slice A out.length c) out.length (strs out) ∧ Below w.heap.size w wr
def InRel (n : ByteArray) (out : List ByteArray) (w2 : World) (x p i : Value) (wr : World) : Prop :=
  ∃ (j : Nat) (nx : List ByteArray) (pb : Bool) (A : Option Addr) (c : Nat), j ≤ out.length ∧ Hid (runW n out j = (nx, pb)) ∧ x = .slice A nx.length c ∧ p = .bool pb ∧ i = .int .i64 j ∧ wr.ownsRow w2.heap.size 9 1 (.slice A nx.length c) nx.length (strs nx) ∧ Below w2.heap.size w2 wr
theorem strs_snoc (l : List ByteArray) (s : ByteArray) : strs (l ++ [s]) = strs l ++ [.string s] := by simp [strs]
theorem in_step1 {n : ByteArray} {out nx : List ByteArray} {w2 wr w5 : World} {j : Nat} {pb : Bool} {A : Option Addr} {c g cap : Nat} {o : Obj} (hj : j < out.length) (hst : runW n out j = (nx, pb)) (hq : (!pb && Op.bytesLess n.toList out[j].toList) = false) (hB : Below w2.heap.size w2 wr)
    (hown : w5.ownsRow w2.heap.size 9 1 (.slice (some ⟨g, 0, none⟩) (nx.length + 1) cap) (nx.length + 1) (strs nx ++ [.string out[j]])) (hg : (wr.alloc o).grownBy w5 (Value.slice A nx.length c).ownBlock) (hA : ∀ g, (Value.slice A nx.length c).ownBlock = some g → w2.heap.size ≤ g) :
    InRel n out w2 (.slice (some ⟨g, 0, none⟩) (nx.length + 1) cap) (.bool pb) (.int .i64 ((j + 1 : Nat) : Int)) w5 := by
  have h4 : Below w2.heap.size w2 (wr.alloc o) := hB.alloc hB.size o
  refine ⟨j + 1, nx ++ [out[j]], pb, some ⟨g, 0, none⟩, cap, by omega, ?_, by rw [List.length_append]; rfl, rfl, rfl, ?_, h4.grown hg h4.size hA⟩
  · show _ = _
    rw [runW_next hj, hst]
    unfold stW
    simp only [hq, Bool.false_eq_true, if_false]
    cases pb with
    | true => rfl
    | false =>
      have : Op.bytesLess n.toList out[j].toList = false := by simpa using hq
      rw [this]
      rfl
  · rw [List.length_append, strs_snoc]
    exact hown
theorem in_step2 {n : ByteArray} {out nx : List ByteArray} {w2 wr w5 w6 : World} {j : Nat} {A : Option Addr} {c g cap g' cap' : Nat} {o o' : Obj} (hj : j < out.length) (hst : runW n out j = (nx, false)) (hq : Op.bytesLess n.toList out[j].toList = true) (hB : Below w2.heap.size w2 wr)
    (hown : w5.ownsRow w2.heap.size 9 1 (.slice (some ⟨g, 0, none⟩) (nx.length + 1) cap) (nx.length + 1) (strs nx ++ [.string n])) (hg : (wr.alloc o).grownBy w5 (Value.slice A nx.length c).ownBlock) (hA : ∀ g, (Value.slice A nx.length c).ownBlock = some g → w2.heap.size ≤ g)
    (hown' : w6.ownsRow w2.heap.size 9 1 (.slice (some ⟨g', 0, none⟩) (nx.length + 1 + 1) cap') (nx.length + 1 + 1) (strs nx ++ [.string n] ++ [.string out[j]])) (hg' : (w5.alloc o').grownBy w6 (Value.slice (some ⟨g, 0, none⟩) (nx.length + 1) cap).ownBlock) (_h : g < w5.heap.size) :
    InRel n out w2 (.slice (some ⟨g', 0, none⟩) (nx.length + 1 + 1) cap') (.bool true) (.int .i64 ((j + 1 : Nat) : Int)) w6 := by
  have h4 : Below w2.heap.size w2 (wr.alloc o) := hB.alloc hB.size o
  have h5 : Below w2.heap.size w2 w5 := h4.grown hg h4.size hA
  have h6 : Below w2.heap.size w2 (w5.alloc o') := h5.alloc h5.size o'
  refine ⟨j + 1, nx ++ [n] ++ [out[j]], true, some ⟨g', 0, none⟩, cap', by omega, ?_, by simp, rfl, rfl, ?_, h6.grown hg' h6.size (fun g hg => own_base hown hg)⟩
  · show _ = _
    rw [runW_next hj, hst]
    simp [stW, hq]
  · rw [strs_snoc, strs_snoc]
    simpa using hown'
theorem below_app {w2 wr w5 : World} {o : Obj} {row : Option Nat} {B : Nat} (hB : Below B w2 wr) (hs : B ≤ wr.heap.size) (hg : (wr.alloc o).grownBy w5 row) (hA : ∀ g, row = some g → B ≤ g) : Below B w2 w5 :=
  (hB.alloc hs o).grown hg (by simp; omega) hA
theorem evW_next {L : List It} {k : Nat} (hk : k < L.length) : evW (L.take (k + 1)) = if wordIn L[k].n.a.ev (evW (L.take k)) then evW (L.take k) else insW L[k].n.a.ev (evW (L.take k)) := by
  unfold evW
  rw [List.take_succ_eq_append_getElem hk, List.foldl_append]
  rfl

set_option maxRecDepth 100000 in
set_option maxHeartbeats 8000000 in
theorem events_ (L : List It) (N : Option Addr) (nc : Nat) (E : List ByteArray) (w : World) (hE : evW L = E) (hL : Sl w w.heap.size 10 N L.length nc (itCells L)) (hlen : L.length ≤ 1048576) :
    Calls Tryz.prog 64 #[.slice N L.length nc] w (OwnW E w) := by
  subst hE
  obtain ⟨i0, hi, hz0, hz1, hz2⟩ := info_parts infoStr
  have HL := Lib.hid hL
  clear hL
  go_enter Tryz.func64, Tryz.ntmps64
  go_wp2_with fail
  go_loopw [3, 4] (fun o i wr => EvRel w L o i wr) (fun _ i => fun _ => L.length - (intOf i).toNat)
  case atStart => exact ⟨0, [], none, 0, Nat.zero_le _, rfl, Nat.le_refl _, rfl, rfl, World.ownsRow_nil _ _ _ _, Below.refl _ _⟩
  case round =>
    obtain ⟨k, out, A, c, hk, HE, hol, rfl, rfl, hown, hB⟩ := hrel
    have hsz := hB.size
    have HB := Lib.hid hB
    have HO := Lib.hid hown
    clear hB hown
    by_cases hlt : k < L.length
    · obtain ⟨nb, off, rfl, hnb, y0, y1, y2, y3, y4, y5, y6, y7, y8, y9⟩ := (HL.out.below HB.out).it_at hlt
      have i0' : (0 : Int) ≤ (k : Int) := by omega
      have i1' : (k : Int) < (L.length : Int) := by omega
      have HEN := Lib.hid (evW_next hlt)
      obtain ⟨x, hx⟩ : ∃ x, x = L[k] := ⟨_, rfl⟩
      rw [← hx] at y0 HEN
      clear hx y1 y2 y3 y4 y5 y6 y7 y8 y9
      go_wp2_with fail
      refine (findWord_ out A c x.n.a.ev _ (((Sl.of_own HO.out).below (by (repeat (first | exact Below.refl _ _ | assumption | refine below_drewN ?_ _ | refine Below.drew ?_ | refine Below.setCell ?_ (by first | omega | (simp; done) | (simp; omega)) _ | refine Below.alloc ?_ (by first | omega | (simp; done) | (simp; omega)) _)))).more (by first | (simp; done) | omega))).mono ?_
      rintro e w2 ⟨v, rfl, hv, hb⟩
      have hz2' : wr.heap.size ≤ w2.heap.size := hb.size
      have HB2w := Lib.hid (HB.out.trans (hb.mono hsz))
      have HOW := Lib.hid (own_below HO.out (Nat.le_refl _) hb)
      clear hb
      cases hin : wordIn x.n.a.ev out with
      | true =>
        rw [hin] at hv
        have hv2 : (0 : Int) ≤ v := of_decide_eq_true hv
        go_wp2_with fail
        go_roundw
        case rel =>
          refine ⟨k + 1, out, A, c, by omega, ?_, by omega, rfl, by go_num, HOW.out, HB2w.out⟩
          show _ = _
          have h1 := HE.out
          rw [HEN.out, ← h1, if_pos hin]
        case measure => simp [intOf]; omega
      | false =>
        rw [hin] at hv
        have hv2 : ¬ (0 : Int) ≤ v := of_decide_eq_false hv
        have hv3 : v < 0 := by omega
        go_wp2_with fail
        go_loopw [6, 7, 8] (fun nx p i wz => InRel x.n.a.ev out w2 nx p i wz) (fun _ _ i _ => out.length - (intOf i).toNat)
        case atStart => exact ⟨0, [], false, none, 0, Nat.zero_le _, rfl, rfl, rfl, rfl, World.ownsRow_nil _ _ _ _, Below.refl _ _⟩
        case round =>
          obtain ⟨j, nx, pb, A2, c2, hj, HST, rfl, rfl, rfl, hown2, hB2⟩ := hrel
          have hsz2 := hB2.size
          have HB2 := Lib.hid hB2
          have HO2 := Lib.hid hown2
          have hnl : nx.length ≤ 2 * j := by have := runW_len x.n.a.ev out j hj; rw [HST.out] at this; exact this
          have HOZ := Lib.hid ((Sl.of_own HOW.out).below hB2)
          clear hB2 hown2
          by_cases hjl : j < out.length
          · obtain ⟨ob, oo, e, hob, z0⟩ := HOZ.out.str_at hjl
            subst e
            have hob2 : ob < wr.heap.size := by omega
            have j0 : (0 : Int) ≤ (j : Int) := by omega
            have j1 : (j : Int) < (out.length : Int) := by omega
            cases pb with
            | true =>
              go_wp2_with (at_builtin; refine wpList_append_lies _ rfl _ _ 83 rfl (w2.heap.size) 9 i0 (.string ⟨#[]⟩) 1 16 Tryz.underlying83 hi hz0 hz1 hz2 rfl (by decide) (.slice A2 nx.length c2) nx.length (strs nx) rfl (own_below HO2.out (Nat.le_refl _) (by (repeat (first | exact Below.refl _ _ | assumption | refine below_drewN ?_ _ | refine Below.drew ?_ | refine Below.setCell ?_ (by first | omega | (simp; done) | (simp; omega)) _ | refine Below.alloc ?_ (by first | omega | (simp; done) | (simp; omega)) _)))) _ 1 1 [.string out[j]] rfl rfl (World.news_of_block (heap_alloc_new wr _)) (strs_one [out[j]]) (by decide) (by unfold maxLen; omega) (by omega) (by simp; omega) _ rfl ?_; intro gA capA wA hownA hgA hatA hltA)
              go_roundw
              case rel => exact in_step1 hjl HST.out rfl HB2.out hownA hgA (fun g hg => own_base HO2.out hg)
              case measure => simp [intOf]; omega
            | false =>
              cases hq : Op.bytesLess x.n.a.ev.toList out[j].toList with
              | true =>
                go_wp2_with (first
                  | (at_builtin; refine wpList_append_lies _ rfl _ _ 83 rfl (w2.heap.size) 9 i0 (.string ⟨#[]⟩) 1 16 Tryz.underlying83 hi hz0 hz1 hz2 rfl (by decide) (.slice (some ⟨gA, 0, none⟩) (nx.length + 1) capA) (nx.length + 1) (strs nx ++ [.string x.n.a.ev]) rfl (own_below hownA (Nat.le_refl _) (by (repeat (first | exact Below.refl _ _ | assumption | refine below_drewN ?_ _ | refine Below.drew ?_ | refine Below.setCell ?_ (by first | omega | (simp; done) | (simp; omega)) _ | refine Below.alloc ?_ (by first | omega | (simp; done) | (simp; omega)) _)))) _ 1 1 [.string out[j]] rfl rfl (World.news_of_block (heap_alloc_new wA _)) (strs_one [out[j]]) (by decide) (by unfold maxLen; omega) (by omega) (by simp; omega) _ rfl ?_; intro gB capB wB hownB hgB hatB hltB)
                  | (at_builtin; refine wpList_append_lies _ rfl _ _ 83 rfl (w2.heap.size) 9 i0 (.string ⟨#[]⟩) 1 16 Tryz.underlying83 hi hz0 hz1 hz2 rfl (by decide) (.slice A2 nx.length c2) nx.length (strs nx) rfl (own_below HO2.out (Nat.le_refl _) (by (repeat (first | exact Below.refl _ _ | assumption | refine below_drewN ?_ _ | refine Below.drew ?_ | refine Below.setCell ?_ (by first | omega | (simp; done) | (simp; omega)) _ | refine Below.alloc ?_ (by first | omega | (simp; done) | (simp; omega)) _)))) _ 1 1 [.string x.n.a.ev] rfl rfl (World.news_of_block (heap_alloc_new wr _)) (strs_one [x.n.a.ev]) (by decide) (by unfold maxLen; omega) (by omega) (by simp; omega) _ rfl ?_; intro gA capA wA hownA hgA hatA hltA; have szA := hgA.size; (try simp at szA); have zA : wA.cell? ⟨ob, oo + j, none⟩ = some (.string out[j]) := (hgA.cell_far ⟨ob, oo + j, none⟩ (by show ob < (wr.alloc _).heap.size; simp; omega) (fun f => absurd (show w2.heap.size ≤ ob from own_base HO2.out f.symm) (by omega))).trans ((((Below.refl wr.heap.size wr).alloc (Nat.le_refl _) _).cell (p := ⟨ob, oo + j, none⟩) hob2).trans z0)))
                go_roundw
                case rel => exact in_step2 hjl HST.out hq HB2.out hownA hgA (fun g hg => own_base HO2.out hg) hownB hgB hltA
                case measure => simp [intOf]; omega
              | false =>
                go_wp2_with (at_builtin; refine wpList_append_lies _ rfl _ _ 83 rfl (w2.heap.size) 9 i0 (.string ⟨#[]⟩) 1 16 Tryz.underlying83 hi hz0 hz1 hz2 rfl (by decide) (.slice A2 nx.length c2) nx.length (strs nx) rfl (own_below HO2.out (Nat.le_refl _) (by (repeat (first | exact Below.refl _ _ | assumption | refine below_drewN ?_ _ | refine Below.drew ?_ | refine Below.setCell ?_ (by first | omega | (simp; done) | (simp; omega)) _ | refine Below.alloc ?_ (by first | omega | (simp; done) | (simp; omega)) _)))) _ 1 1 [.string out[j]] rfl rfl (World.news_of_block (heap_alloc_new wr _)) (strs_one [out[j]]) (by decide) (by unfold maxLen; omega) (by omega) (by simp; omega) _ rfl ?_; intro gA capA wA hownA hgA hatA hltA)
                go_roundw
                case rel => exact in_step1 hjl HST.out (by rw [hq]; rfl) HB2.out hownA hgA (fun g hg => own_base HO2.out hg)
                case measure => simp [intOf]; omega
          · obtain rfl : j = out.length := by omega
            have HFI := Lib.hid (runW_end x.n.a.ev out)
            have HIL := insW_len x.n.a.ev out
            cases pb with
            | true =>
              go_wp2_with fail
              go_roundw
              case rel =>
                have h2 := HFI.out
                rw [HST.out] at h2
                have h3 : nx = insW x.n.a.ev out := h2
                refine ⟨k + 1, nx, A2, c2, by omega, ?_, by rw [h3, HIL]; omega, rfl, by go_num, own_more HO2.out HB2w.out.size, HB2w.out.trans (HB2.out.mono HB2w.out.size)⟩
                show _ = _
                have h1 := HE.out
                rw [HEN.out, ← h1, if_neg (by rw [hin]; simp), h3]
              case measure => simp [intOf]; omega
            | false =>
              go_wp2_with (at_builtin; refine wpList_append_lies _ rfl _ _ 83 rfl (w2.heap.size) 9 i0 (.string ⟨#[]⟩) 1 16 Tryz.underlying83 hi hz0 hz1 hz2 rfl (by decide) (.slice A2 nx.length c2) nx.length (strs nx) rfl (own_below HO2.out (Nat.le_refl _) (by (repeat (first | exact Below.refl _ _ | assumption | refine below_drewN ?_ _ | refine Below.drew ?_ | refine Below.setCell ?_ (by first | omega | (simp; done) | (simp; omega)) _ | refine Below.alloc ?_ (by first | omega | (simp; done) | (simp; omega)) _)))) _ 1 1 [.string x.n.a.ev] rfl rfl (World.news_of_block (heap_alloc_new wr _)) (strs_one [x.n.a.ev]) (by decide) (by unfold maxLen; omega) (by omega) (by simp; omega) _ rfl ?_; intro gA capA wA hownA hgA hatA hltA)
              go_roundw
              case rel =>
                have h2 := HFI.out
                rw [HST.out] at h2
                have h3 : nx ++ [x.n.a.ev] = insW x.n.a.ev out := h2
                refine ⟨k + 1, nx ++ [x.n.a.ev], some ⟨gA, 0, none⟩, capA, by omega, ?_, by rw [h3, HIL]; omega, by rw [List.length_append]; rfl, by go_num, ?_, HB2w.out.trans ((below_app HB2.out hsz2 hgA (fun g hg => own_base HO2.out hg)).mono HB2w.out.size)⟩
                · show _ = _
                  have h1 := HE.out
                  rw [HEN.out, ← h1, if_neg (by rw [hin]; simp), h3]
                · rw [List.length_append, strs_snoc]
                  exact own_more hownA HB2w.out.size
              case measure => simp [intOf]; omega
    · obtain rfl : k = L.length := by omega
      have h1 := HE.out
      rw [List.take_length] at h1
      have HE2 := Lib.hid h1
      clear h1
      go_wp2_with fail
      go_ret
      rw [← HE2.out]
      exact ⟨A, c, rfl, HO.out, HB.out⟩
end Go.Proofs.YtohfofecbdfkgaaGreatDoor
