/-
  The walks of has, versioned, many and counting, of the specification.
-/
import Derived.Test.YtohfofecbdfkgaaGreatDoorU16
import Derived.Test.YtohfofecbdfkgaaGreatDoorU07
import Derived.Test.YtohfofecbdfkgaaGreatDoorU08
import Derived.Test.YtohfofecbdfkgaaGreatDoorU09
namespace Go.Proofs.YtohfofecbdfkgaaGreatDoor
open Go.RowKit Al

theorem any_take_at {α : Type} {p : α → Bool} {l : List α} {k : Nat} (hk : k < l.length) (h : p l[k] = true) : l.any p = true := by
  rw [List.any_eq_true]
  exact ⟨l[k], List.getElem_mem hk, h⟩
theorem any_take_no {α : Type} {p : α → Bool} {l : List α} {k : Nat} (hk : k < l.length) (h0 : (l.take k).any p = false) (h : p l[k] = false) : (l.take (k + 1)).any p = false := by
  rw [List.take_succ_eq_append_getElem hk, List.any_append, h0]
  simp [h]
theorem any_end {α : Type} {p : α → Bool} {l : List α} (h : (l.take l.length).any p = false) : l.any p = false := by
  rwa [List.take_of_length_le (Nat.le_refl _)] at h
/-- A round of a search: nothing was found so far. -/
def AnRel {α : Type} (p : α → Bool) (l : List α) (w : World) (i : Value) (wr : World) : Prop := ∃ k : Nat, k ≤ l.length ∧ i = .int .i64 k ∧ Hid ((l.take k).any p = false) ∧ Below w.heap.size w wr

set_option maxRecDepth 100000 in
set_option maxHeartbeats 2000000 in
theorem versioned_ (L : List It) (N : Option Addr) (nc : Nat) (v : Int) (b : Bool) (w : World) (hb : L.any (fun x => x.n.a.ver == v) = b) (hL : Sl w w.heap.size 10 N L.length nc (itCells L)) :
    Calls Tryz.prog 70 #[.slice N L.length nc, .int .i64 v] w fun e w' => e = .returned (.bool b) ∧ Below w.heap.size w w' := by
  have HL := Lib.hid hL
  have HV := Lib.hid hb
  have hlen : L.length ≤ maxLen := Nat.le_trans hL.cap hL.max
  unfold maxLen at hlen
  clear hL hb
  go_enter Tryz.func70, Tryz.ntmps70
  go_wp2_with fail
  go_loopw [5] (fun i wr => AnRel (fun x : It => x.n.a.ver == v) L w i wr) (fun i _ => L.length - (intOf i).toNat)
  case atStart => exact ⟨0, Nat.zero_le _, rfl, (by show _ = _; simp), Below.refl _ _⟩
  case round =>
    obtain ⟨k, hk, rfl, HN, hB⟩ := hrel
    have hsz := hB.size
    have HB := Lib.hid hB
    clear hB
    by_cases hlt : k < L.length
    · obtain ⟨nb, off, rfl, hnb, y0, y1, y2, y3, y4, y5, y6, y7, y8, y9⟩ := (HL.out.below HB.out).it_at hlt
      have i0 : (0 : Int) ≤ (k : Int) := by omega
      have i1 : (k : Int) < (L.length : Int) := by omega
      clear y0 y2 y3 y4 y5 y6 y7 y8 y9
      cases hv : (L[k].n.a.ver == v) with
      | true =>
        have HX := Lib.hid (any_take_at (p := fun x : It => x.n.a.ver == v) hlt hv)
        go_wp2_with fail
        go_ret
        exact ⟨ret_bool (HV.out.symm.trans HX.out).symm, HB.out⟩
      | false =>
        have HX := Lib.hid (any_take_no (p := fun x : It => x.n.a.ver == v) hlt HN.out hv)
        go_wp2_with fail
        go_roundw
        case rel => exact ⟨k + 1, by omega, by go_num, HX, HB.out⟩
        case measure => simp [intOf]; omega
    · obtain rfl : k = L.length := by omega
      have HX := Lib.hid (any_end HN.out)
      go_wp2_with fail
      go_ret
      exact ⟨ret_bool (HV.out.symm.trans HX.out).symm, HB.out⟩

set_option maxRecDepth 100000 in
set_option maxHeartbeats 2000000 in
theorem has_ (n : Ntc) (A : Option Addr) (c : Nat) (S : Option Addr) (sc : Nat) (s : Int) (b : Bool) (w : World) (hb : n.sg.any (fun x => x.1 == s) = b) (hn : NIn w n A c S sc) :
    Calls Tryz.prog 107 #[n.val A c S sc, .int .i64 s] w fun e w' => e = .returned (.bool b) ∧ Below w.heap.size w w' := by
  have HN := Lib.hid hn
  have HV := Lib.hid hb
  have hlen : n.sg.length ≤ maxLen := Nat.le_trans hn.sl.cap hn.sl.max
  unfold maxLen at hlen
  clear hn hb
  go_enter Tryz.func107, Tryz.ntmps107
  go_wp2_with fail
  go_loopw [5] (fun i wr => AnRel (fun x : Int × Int => x.1 == s) n.sg w i wr ∧ wr.cell? ⟨w.heap.size, 9, none⟩ = some (.slice S n.sg.length sc) ∧ w.heap.size < wr.heap.size) (fun i _ => n.sg.length - (intOf i).toNat)
  case atStart => exact ⟨⟨0, Nat.zero_le _, rfl, (by show _ = _; simp), (by (repeat (first | exact Below.refl _ _ | assumption | refine below_drewN ?_ _ | refine Below.drew ?_ | refine Below.setCell ?_ (by first | omega | (simp; done) | (simp; omega)) _ | refine Below.alloc ?_ (by first | omega | (simp; done) | (simp; omega)) _)))⟩, by simp [go_sem], by simp⟩
  case round =>
    obtain ⟨⟨k, hk, rfl, HA, hB⟩, hc9, hlw⟩ := hrel
    have HB := Lib.hid hB
    clear hB
    by_cases hlt : k < n.sg.length
    · obtain ⟨nb, off, e, hnb, y0, y1⟩ := ((HN.out.sl).below HB.out).key_at hlt
      rw [e] at hc9
      have i0 : (0 : Int) ≤ (k : Int) := by omega
      have i1 : (k : Int) < (n.sg.length : Int) := by omega
      cases hv : (n.sg[k].1 == s) with
      | true =>
        have HX := Lib.hid (any_take_at (p := fun x : Int × Int => x.1 == s) hlt hv)
        go_wp2_with fail
        go_ret
        exact ⟨ret_bool (HV.out.symm.trans HX.out).symm, HB.out⟩
      | false =>
        have HX := Lib.hid (any_take_no (p := fun x : Int × Int => x.1 == s) hlt HA.out hv)
        go_wp2_with fail
        go_roundw
        case rel => exact ⟨⟨k + 1, by omega, by go_num, HX, HB.out⟩, by rw [e]; exact hc9, hlw⟩
        case measure => simp [intOf]; omega
    · obtain rfl : k = n.sg.length := by omega
      have HX := Lib.hid (any_end HA.out)
      go_wp2_with fail
      go_ret
      exact ⟨ret_bool (HV.out.symm.trans HX.out).symm, HB.out⟩

/-- The error of a roll and notices. -/
def manyE (ks : List (Int × Int)) (q : Int) (len : Nat) : Int := if rollOk ks q then (if 64 < len then 3 else 0) else 104
set_option maxRecDepth 100000 in
theorem many_ (ks : List (Int × Int)) (q : Int) (K : Option Addr) (kc : Nat) (N : Option Addr) (len nc : Nat) (w : World) (hr : Rin w ks K kc) (hlen : len ≤ 1152921504606846976) :
    Calls Tryz.prog 62 #[rollV ks K kc q, .slice N len nc] w fun e w' => e = .returned (.int .i64 (manyE ks q len)) ∧ Below w.heap.size w w' := by
  have HR := Lib.hid hr
  clear hr
  cases ho : rollOk ks q with
  | false =>
    have HM : Hid (manyE ks q len = 104) := by show _ = _; unfold manyE; rw [ho]; rfl
    have HO := Lib.hid ho
    clear ho
    go_enter Tryz.func62, Tryz.ntmps62
    go_wp2_with fail
    refine (rCheckRoll_is ks q K kc _ 104 (errA_f HO.out) (HR.out.below (by (repeat (first | exact Below.refl _ _ | assumption | refine below_drewN ?_ _ | refine Below.drew ?_ | refine Below.setCell ?_ (by first | omega | (simp; done) | (simp; omega)) _ | refine Below.alloc ?_ (by first | omega | (simp; done) | (simp; omega)) _))))).mono ?_
    rintro e w1 ⟨rfl, hb⟩
    obtain ⟨hcw1, hfw1⟩ := bcell hb
    have Hw1 := Lib.hid ((show Below w.heap.size w _ from (by repeat (first | exact Below.refl _ _ | assumption | refine below_drewN ?_ _ | refine Below.drew ?_ | refine Below.setCell ?_ (by first | omega | (simp; done) | (simp; omega)) _ | refine Below.alloc ?_ (by first | omega | (simp; done) | (simp; omega)) _))).trans (hb.mono (by first | omega | (simp; done) | (simp; omega))))
    have hzw1 := hb.size
    try simp at hzw1
    clear hb
    go_wp2_with fail
    go_ret
    exact ⟨ret_int HM.out.symm, Hw1.out⟩
  | true =>
    have HO := Lib.hid ho
    by_cases hl : 64 < len
    · have HM : Hid (manyE ks q len = 3) := by show _ = _; unfold manyE; rw [ho, if_pos hl]; rfl
      have t1 : decide ((64 : Int) < (len : Int)) = true := decide_eq_true (by omega)
      clear ho
      go_enter Tryz.func62, Tryz.ntmps62
      go_wp2_with fail
      refine (rCheckRoll_is ks q K kc _ 0 (errA_t HO.out) (HR.out.below (by (repeat (first | exact Below.refl _ _ | assumption | refine below_drewN ?_ _ | refine Below.drew ?_ | refine Below.setCell ?_ (by first | omega | (simp; done) | (simp; omega)) _ | refine Below.alloc ?_ (by first | omega | (simp; done) | (simp; omega)) _))))).mono ?_
      rintro e w1 ⟨rfl, hb⟩
      obtain ⟨hcw1, hfw1⟩ := bcell hb
      have Hw1 := Lib.hid ((show Below w.heap.size w _ from (by repeat (first | exact Below.refl _ _ | assumption | refine below_drewN ?_ _ | refine Below.drew ?_ | refine Below.setCell ?_ (by first | omega | (simp; done) | (simp; omega)) _ | refine Below.alloc ?_ (by first | omega | (simp; done) | (simp; omega)) _))).trans (hb.mono (by first | omega | (simp; done) | (simp; omega))))
      have hzw1 := hb.size
      try simp at hzw1
      clear hb
      go_wp2_with fail
      go_ret
      exact ⟨ret_int HM.out.symm, Hw1.out⟩
    · have HM : Hid (manyE ks q len = 0) := by show _ = _; unfold manyE; rw [ho, if_neg hl]; rfl
      have t1 : decide ((64 : Int) < (len : Int)) = false := decide_eq_false (by omega)
      have t2 : len ≤ 64 := by omega
      clear ho hl
      go_enter Tryz.func62, Tryz.ntmps62
      go_wp2_with fail
      refine (rCheckRoll_is ks q K kc _ 0 (errA_t HO.out) (HR.out.below (by (repeat (first | exact Below.refl _ _ | assumption | refine below_drewN ?_ _ | refine Below.drew ?_ | refine Below.setCell ?_ (by first | omega | (simp; done) | (simp; omega)) _ | refine Below.alloc ?_ (by first | omega | (simp; done) | (simp; omega)) _))))).mono ?_
      rintro e w1 ⟨rfl, hb⟩
      obtain ⟨hcw1, hfw1⟩ := bcell hb
      have Hw1 := Lib.hid ((show Below w.heap.size w _ from (by repeat (first | exact Below.refl _ _ | assumption | refine below_drewN ?_ _ | refine Below.drew ?_ | refine Below.setCell ?_ (by first | omega | (simp; done) | (simp; omega)) _ | refine Below.alloc ?_ (by first | omega | (simp; done) | (simp; omega)) _))).trans (hb.mono (by first | omega | (simp; done) | (simp; omega))))
      have hzw1 := hb.size
      try simp at hzw1
      clear hb
      go_wp2_with fail
      go_ret
      exact ⟨ret_int HM.out.symm, Hw1.out⟩
end Go.Proofs.YtohfofecbdfkgaaGreatDoor

/-
  The walks of counting and of of, of the specification.
-/
namespace Go.Proofs.YtohfofecbdfkgaaGreatDoor
open Go.RowKit Al

theorem rnote_is (ks : List (Int × Int)) (q : Int) (K : Option Addr) (kc : Nat) (n : Ntc) (A : Option Addr) (c : Nat) (S : Option Addr) (sc : Nat) (v : Int) (w : World) (hv : noticeE ks q n = v) (hr : Rin w ks K kc) (ho : rollOk ks q = true) (hn : NIn w n A c S sc) :
    Calls Tryz.prog 101 #[rollV ks K kc q, n.val A c S sc] w fun e w' => e = .returned (.int .i64 v) ∧ Below w.heap.size w w' := hv ▸ rnotice_ ks q K kc n A c S sc w hr ho hn
/-- The first k that are so. -/
def flL (p : It → Bool) (L : List It) (k : Nat) : List It := (L.take k).filter p
theorem flL_yes {p : It → Bool} {L : List It} {k : Nat} (hk : k < L.length) (h : p L[k] = true) : flL p L (k + 1) = flL p L k ++ [L[k]] := by
  unfold flL
  rw [List.take_succ_eq_append_getElem hk, List.filter_append, List.filter_cons_of_pos (by exact h), List.filter_nil]
theorem flL_no {p : It → Bool} {L : List It} {k : Nat} (hk : k < L.length) (h : p L[k] = false) : flL p L (k + 1) = flL p L k := by
  unfold flL
  rw [List.take_succ_eq_append_getElem hk, List.filter_append, List.filter_cons_of_neg (by rw [h]; simp), List.filter_nil, List.append_nil]
theorem flL_len (p : It → Bool) (L : List It) (k : Nat) : (flL p L k).length ≤ L.length := Nat.le_trans (List.length_filter_le _ _) (by rw [List.length_take]; omega)
theorem flL_end (p : It → Bool) (L : List It) : flL p L L.length = L.filter p := by unfold flL; rw [List.take_length]
def FlRel (w : World) (B : Nat) (L : List It) (p : It → Bool) (o i : Value) (wr : World) : Prop :=
  ∃ (k : Nat) (A : Option Addr) (c : Nat), k ≤ L.length ∧ o = .slice A (flL p L k).length c ∧ i = .int .i64 k ∧ wr.ownsRow B 54 10 (.slice A (flL p L k).length c) (flL p L k).length (itCells (flL p L k)) ∧ Below B w wr
theorem fl_step {w w4 w5 : World} {B : Nat} {L : List It} {p : It → Bool} {k : Nat} {A : Option Addr} {c g cap : Nat} (hlt : k < L.length) (hx : flL p L (k + 1) = flL p L k ++ [L[k]])
    (hown : w5.ownsRow B 54 10 (.slice (some ⟨g, 0, none⟩) ((flL p L k).length + 1) cap) ((flL p L k).length + 1) (itCells (flL p L k) ++ L[k].lst)) (h4 : Below B w w4) (hB : B ≤ w4.heap.size) (hg : w4.grownBy w5 (Value.slice A (flL p L k).length c).ownBlock)
    (hA : ∀ g, (Value.slice A (flL p L k).length c).ownBlock = some g → B ≤ g) :
    FlRel w B L p (.slice (some ⟨g, 0, none⟩) ((flL p L k).length + 1) cap) (.int .i64 ((k + 1 : Nat) : Int)) w5 := by
  refine ⟨k + 1, some ⟨g, 0, none⟩, cap, by omega, by rw [hx, List.length_append]; rfl, rfl, ?_, h4.grown hg hB hA⟩
  rw [hx, List.length_append, itCells_snoc]
  exact hown

set_option maxRecDepth 100000 in
set_option maxHeartbeats 4000000 in
theorem counting_ (ks : List (Int × Int)) (q : Int) (K : Option Addr) (kc : Nat) (L : List It) (N : Option Addr) (nc : Nat) (w : World) (hr : Rin w ks K kc) (ho : rollOk ks q = true) (hL : Sl w w.heap.size 10 N L.length nc (itCells L)) (hI : ∀ x ∈ L, NIn w x.n x.A x.c x.S x.sc) (hlen : L.length ≤ 1048576) :
    Calls Tryz.prog 63 #[rollV ks K kc q, .slice N L.length nc] w (OwnIts (L.filter fun x => noticeE ks q x.n == 0) w) := by
  obtain ⟨i0, hi, hz0, hz1, hz2⟩ := info_parts infoNtc
  have HL := Lib.hid hL
  have HI := Lib.hid hI
  have HR := Lib.hid hr
  have HO := Lib.hid ho
  clear hL hI hr ho
  go_enter Tryz.func63, Tryz.ntmps63
  go_wp2_with fail
  go_loopw [5, 6] (fun o i wr => FlRel (w.alloc (.cells (rollV ks K kc q).cells 24)) (w.heap.size + 1) L (fun x => noticeE ks q x.n == 0) o i wr) (fun _ i _ => L.length - (intOf i).toNat)
  case atStart => exact ⟨0, none, 0, Nat.zero_le _, rfl, rfl, World.ownsRow_nil _ _ _ _, Below.refl _ _⟩
  case round =>
    obtain ⟨k, A, c, hk, rfl, rfl, hown, hB⟩ := hrel
    have hsz := hB.size
    simp at hsz
    have HB1 := Lib.hid hB
    have HB : Hid (Below w.heap.size w wr) := (show Below w.heap.size w _ from by (repeat (first | exact Below.refl _ _ | assumption | refine below_drewN ?_ _ | refine Below.drew ?_ | refine Below.setCell ?_ (by first | omega | (simp; done) | (simp; omega)) _ | refine Below.alloc ?_ (by first | omega | (simp; done) | (simp; omega)) _))).trans (hB.mono (by omega))
    have HO1 := Lib.hid hown
    have u0 : wr.cell? ⟨w.heap.size, 0, none⟩ = some (.slice K ks.length kc) := by rw [hB.cell (p := ⟨w.heap.size, 0, none⟩) (by show w.heap.size < w.heap.size + 1; omega)]; simp [go_sem]
    have u1 : wr.cell? ⟨w.heap.size, 1, none⟩ = some (.int .i64 q) := by rw [hB.cell (p := ⟨w.heap.size, 1, none⟩) (by show w.heap.size < w.heap.size + 1; omega)]; simp [go_sem]
    have lw : w.heap.size < wr.heap.size := by omega
    clear hB hown
    by_cases hlt : k < L.length
    · obtain ⟨b, off, rfl, hb, y0, y1, y2, y3, y4, y5, y6, y7, y8, y9⟩ := (HL.out.below HB.out).it_at hlt
      have i0' : (0 : Int) ≤ (k : Int) := by omega
      have i1' : (k : Int) < (L.length : Int) := by omega
      have hb2 : b < wr.heap.size := by omega
      have hll := flL_len (fun x => noticeE ks q x.n == 0) L k
      have HN := Lib.hid (HI.out L[k] (List.getElem_mem hlt))
      cases he : (noticeE ks q L[k].n == 0) with
      | true =>
        have HX := Lib.hid (flL_yes (p := fun x => noticeE ks q x.n == 0) hlt he)
        have HV : Hid (noticeE ks q L[k].n = 0) := by show _ = _; simpa using he
        obtain ⟨fl, hfl⟩ : ∃ fl, fl = flL (fun x => noticeE ks q x.n == 0) L k := ⟨_, rfl⟩
        rw [← hfl] at hll HO1
        have HFL := Lib.hid hfl
        have hfs : (flL (fun x => noticeE ks q x.n == 0) L k).length = fl.length := by rw [hfl]
        rw [hfs]
        obtain ⟨x, hx⟩ : ∃ x, x = L[k] := ⟨_, rfl⟩
        rw [← hx] at y0 y1 y2 y3 y4 y5 y6 y7 y8 y9 HN HV
        have HXX := Lib.hid hx
        clear he hfl hfs hx
        go_wp2_with fail
        refine wp_region_bw2 (by kernel_rfl) (by kernel_rfl) (fun hbwc => ?_)
        repeat (go_big_quiet_step ((go_at_call 101; exact bwCall (rnote_is ks q K kc x.n x.A x.c x.S x.sc 0 _ HV.out (Rin.below (Rin.below HR.out (Below.trans HB.out (by (repeat (first | exact Below.refl _ _ | assumption | refine below_drewN ?_ _ | refine Below.drew ?_ | refine Below.setCell ?_ (by first | omega | (simp; done) | (simp; omega)) _ | refine Below.alloc ?_ (by first | omega | (simp; done) | (simp; omega)) _))))) (BW.below _)) HO.out (NIn.below (HN.out.below (Below.trans HB.out (by (repeat (first | exact Below.refl _ _ | assumption | refine below_drewN ?_ _ | refine Below.drew ?_ | refine Below.setCell ?_ (by first | omega | (simp; done) | (simp; omega)) _ | refine Below.alloc ?_ (by first | omega | (simp; done) | (simp; omega)) _))))) (BW.below _))))))
        refine wpQuiet_nil ?_
        clear hbwc
        intro w3 hb
        have HB3 := Lib.hid ((show Below wr.heap.size wr _ from (by (repeat (first | exact Below.refl _ _ | assumption | refine below_drewN ?_ _ | refine Below.drew ?_ | refine Below.setCell ?_ (by first | omega | (simp; done) | (simp; omega)) _ | refine Below.alloc ?_ (by first | omega | (simp; done) | (simp; omega)) _)))).trans (hb.mono (by first | omega | (simp; done) | (simp; omega))))
        have hz3 := HB3.out.size
        obtain ⟨hcw3, hfw3⟩ := bcell HB3.out
        clear hb
        go_wp2_with (at_builtin; refine wpList_append_lies _ rfl _ _ 25 rfl (w.heap.size + 1) 54 i0 (.agg #[.string ⟨#[]⟩, .int .i64 0, .int .i64 0, .int .i64 0, .int .i64 0, .int .i64 0, .slice none 0 0, .bool false, .int .i64 0, .slice none 0 0]) 10 120 Tryz.underlying25 hi hz0 hz1 hz2 rfl (by decide) (.slice A fl.length c) fl.length (itCells fl) rfl (own_below HO1.out (Nat.le_refl _) (by repeat (first | exact Below.refl _ _ | exact (HB3).out | refine below_drewN ?_ _ | refine Below.drew ?_ | refine Below.setCell ?_ (by first | omega | (simp; done) | (simp; omega)) _ | refine Below.alloc ?_ (by first | omega | (simp; done) | (simp; omega)) _))) _ 1 1 x.lst rfl rfl (World.news_of_block (heap_alloc_new w3 _)) (ntL_one _ _ _ _ _ _) (by decide) (by unfold maxLen; omega) (by omega) (by simp; omega) _ rfl ?_; intro g5 cap w5 hown5 hg5 hat5 hlt5)
        go_roundw
        case rel =>
          have e1 := HFL.out
          have e2 := HXX.out
          subst e1 e2
          exact fl_step hlt HX.out hown5 (HB1.out.trans (Below.mono (by repeat (first | exact Below.refl _ _ | exact (HB3).out | refine below_drewN ?_ _ | refine Below.drew ?_ | refine Below.setCell ?_ (by first | omega | (simp; done) | (simp; omega)) _ | refine Below.alloc ?_ (by first | omega | (simp; done) | (simp; omega)) _)) (by omega))) (by simp; omega) hg5 (fun g hg => own_base HO1.out hg)
        case measure => simp [intOf]; omega
      | false =>
        have HX := Lib.hid (flL_no (p := fun x => noticeE ks q x.n == 0) hlt he)
        obtain ⟨v, hv⟩ : ∃ v, noticeE ks q L[k].n = v := ⟨_, rfl⟩
        rw [hv] at he
        have HV := Lib.hid hv
        clear hv
        go_wp2_with fail
        refine wp_region_bw2 (by kernel_rfl) (by kernel_rfl) (fun hbwc => ?_)
        repeat (go_big_quiet_step ((go_at_call 101; exact bwCall (rnote_is ks q K kc L[k].n L[k].A L[k].c L[k].S L[k].sc v _ HV.out (Rin.below (Rin.below HR.out (Below.trans HB.out (by (repeat (first | exact Below.refl _ _ | assumption | refine below_drewN ?_ _ | refine Below.drew ?_ | refine Below.setCell ?_ (by first | omega | (simp; done) | (simp; omega)) _ | refine Below.alloc ?_ (by first | omega | (simp; done) | (simp; omega)) _))))) (BW.below _)) HO.out (NIn.below (HN.out.below (Below.trans HB.out (by (repeat (first | exact Below.refl _ _ | assumption | refine below_drewN ?_ _ | refine Below.drew ?_ | refine Below.setCell ?_ (by first | omega | (simp; done) | (simp; omega)) _ | refine Below.alloc ?_ (by first | omega | (simp; done) | (simp; omega)) _))))) (BW.below _))))))
        refine wpQuiet_nil ?_
        clear hbwc
        intro w3 hb
        have HB3 := Lib.hid ((show Below wr.heap.size wr _ from (by (repeat (first | exact Below.refl _ _ | assumption | refine below_drewN ?_ _ | refine Below.drew ?_ | refine Below.setCell ?_ (by first | omega | (simp; done) | (simp; omega)) _ | refine Below.alloc ?_ (by first | omega | (simp; done) | (simp; omega)) _)))).trans (hb.mono (by first | omega | (simp; done) | (simp; omega))))
        have hz3 := HB3.out.size
        clear hb
        go_wp2_with fail
        go_roundw
        case rel =>
          refine ⟨k + 1, A, c, by omega, ?_, by go_num, ?_, HB1.out.trans (HB3.out.mono (by omega))⟩
          · rw [HX.out]
          · rw [HX.out]
            exact own_below HO1.out (Nat.le_refl _) HB3.out
        case measure => simp [intOf]; omega
    · obtain rfl : k = L.length := by omega
      rw [flL_end] at *
      go_wp2_with fail
      go_ret
      exact ⟨A, c, rfl, own_more HO1.out (by omega), HB.out⟩
end Go.Proofs.YtohfofecbdfkgaaGreatDoor

/-
  Maps from strings to lists of notices.
-/
namespace Go.Proofs.YtohfofecbdfkgaaGreatDoor
open Go.RowKit Al

theorem zeroNs (w : World) : (zeroValue 25).run Tryz.prog w = .ok (.slice none 0 0) w := by kernel_rfl
/-- Block mb is a map from strings to lists of notices: what f says of each key. -/
def MapNs (w : World) (mb n : Nat) (f : List UInt8 → Option Value) : Prop :=
  ∃ D : DataW Value, w.ownsMap Tryz.prog 9 MapR mb n D ∧ ∀ s : List UInt8, Maps.has D (.string s) = (f s).isSome ∧ ∀ v, f s = some v → D.atKey (.string s) (.held (.slice none 0 0)) = .held v
theorem MapNs.made (w : World) : MapNs (w.alloc (.map #[] 0)) w.heap.size 0 (fun _ => none) := by
  refine ⟨_, World.ownsMap_made w _ _ _, fun s => ⟨rfl, fun v h => by cases h⟩⟩
theorem MapNs.lt {w : World} {mb n : Nat} {f : List UInt8 → Option Value} (h : MapNs w mb n f) : mb < w.heap.size := by
  obtain ⟨D, h1, _⟩ := h
  exact h1.lt
theorem MapNs.keep {w w' : World} {mb n : Nat} {f : List UInt8 → Option Value} (h : MapNs w mb n f) {F : Nat → Prop} (k : Kp F w w') (hF : ¬ F mb) : MapNs w' mb n f := by
  have hlt := h.lt
  obtain ⟨D, ⟨es, clock, hb, r⟩, h2⟩ := h
  exact ⟨D, ⟨es, clock, (k.block mb hlt hF).trans hb, r⟩, h2⟩
theorem MapNs.look {w : World} {mb n : Nat} {f : List UInt8 → Option Value} (h : MapNs w mb n f) {s : ByteArray} (hs : s.size ≤ maxLen) :
    (Instr.lookup 80 (.map (some mb)) (.string s) false).run Tryz.prog w = .ok ((f s.data.toList).getD (.slice none 0 0)) w := by
  obtain ⟨D, h1, h2⟩ := h
  obtain ⟨hh, ha⟩ := h2 s.data.toList
  obtain ⟨v, ps, hrun, hv⟩ := h1.lookup keyLaw Tryz.underlying80 (zeroNs w) (zd := .held (.slice none 0 0)) (zp := []) rfl (WideMaps.keyOf_string_mk Tryz.underlying9 hs)
  rw [hrun]
  have hv' : DataW.held v = D.atKey (.string s.data.toList) (.held (.slice none 0 0)) := congrArg Prod.fst (Option.some.inj hv)
  cases hf : f s.data.toList with
  | none =>
    rw [hf] at hh
    rw [Maps.atKey_of_not_has hh] at hv'
    cases hv'
    rfl
  | some u =>
    rw [ha u hf] at hv'
    cases hv'
    rfl
theorem MapNs.put {w : World} {mb n : Nat} {f : List UInt8 → Option Value} (h : MapNs w mb n f) (hn : n < maxLen) {s : ByteArray} (hs : s.size ≤ maxLen) (v : Value) :
    ∃ w', (Instr.mapUpdate 80 (.map (some mb)) (.string s) v).run Tryz.prog w = .ok () w' ∧ MapNs w' mb (n + 1) (fun k => if k = s.data.toList then some v else f k) ∧ w.grownBy w' (some mb) := by
  obtain ⟨D, h1, h2⟩ := h
  obtain ⟨w', hrun, h3, h4⟩ := h1.update keyLaw Tryz.underlying80 hn (WideMaps.keyOf_string_mk Tryz.underlying9 hs) (val := v) (d := .held v) (ps := []) rfl
  refine ⟨w', hrun, ⟨_, h3, fun k => ?_⟩, h4⟩
  have hm := h1.isMap
  by_cases hk : k = s.data.toList
  · subst hk
    simp only [if_true]
    refine ⟨Maps.has_put_same hm (isKeyS _) _, fun u hu => ?_⟩
    cases hu
    exact Maps.atKey_put_same hm (isKeyS _) _ _
  · simp only [if_neg hk]
    have hne : (Lit.string k) ≠ .string s.data.toList := fun e => hk (by injection e)
    obtain ⟨hh, ha⟩ := h2 k
    refine ⟨by rw [Maps.has_put_other hne]; exact hh, fun u hu => ?_⟩
    rw [Maps.atKey_put_other hne]
    exact ha u hu
end Go.Proofs.YtohfofecbdfkgaaGreatDoor

/-
  The groups of notices by event, in a map: how one more is put.
-/
namespace Go.Proofs.YtohfofecbdfkgaaGreatDoor
open Go.RowKit Al

/-- The notices of an event. -/
def grp (L : List It) (s : List UInt8) : List It := L.filter fun x => decide (x.n.a.ev.data.toList = s)
theorem grp_snoc (L : List It) (x : It) (s : List UInt8) : grp (L ++ [x]) s = if x.n.a.ev.data.toList = s then grp L s ++ [x] else grp L s := by
  unfold grp
  rw [List.filter_append]
  by_cases h : x.n.a.ev.data.toList = s <;> simp [h]
/-- A map holds the notices of each event, in rows of the call's own, apart from each other. -/
structure Grp (wr : World) (B mb : Nat) (L : List It) (f : List UInt8 → Option Value) : Prop where
  map : MapNs wr mb L.length f
  row : ∀ s v, f s = some v → (∃ A c, v = .slice A (grp L s).length c) ∧ wr.ownsRow B 54 10 v (grp L s).length (itCells (grp L s))
  none_ : ∀ s, f s = none → grp L s = []
  some_ : ∀ s v, f s = some v → 0 < (grp L s).length
  apart : ∀ s t u v, f s = some u → f t = some v → s ≠ t → ∀ g, u.ownBlock = some g → v.ownBlock ≠ some g
  mbB : mb < B
theorem Grp.made (w : World) : Grp (w.alloc (.map #[] 0)) (w.heap.size + 1) w.heap.size [] (fun _ => none) :=
  ⟨MapNs.made w, fun _ _ h => (nomatch h), fun _ _ => rfl, fun _ _ h => (nomatch h), fun _ _ _ _ h => (nomatch h), Nat.lt_succ_self _⟩
theorem Grp.below {w w' : World} {B mb : Nat} {L : List It} {f : List UInt8 → Option Value} (h : Grp w B mb L f) (hb : Below w.heap.size w w') : Grp w' B mb L f :=
  ⟨h.map.keep (F := fun _ => False) (Kp.of_below hb) (fun e => e), fun s v hv => ⟨(h.row s v hv).1, own_below (h.row s v hv).2 (Nat.le_refl _) hb⟩, h.none_, h.some_, h.apart, h.mbB⟩
/-- What stands in the map for an event: its row, or nil. -/
theorem Grp.cur {w : World} {B mb : Nat} {L : List It} {f : List UInt8 → Option Value} (h : Grp w B mb L f) (s : List UInt8) :
    ∃ A c, (f s).getD (.slice none 0 0) = .slice A (grp L s).length c ∧ w.ownsRow B 54 10 (.slice A (grp L s).length c) (grp L s).length (itCells (grp L s)) := by
  cases hf : f s with
  | none => exact ⟨none, 0, by rw [h.none_ s hf]; rfl, by rw [h.none_ s hf]; exact World.ownsRow_nil _ _ _ _⟩
  | some v =>
    obtain ⟨⟨A, c, e⟩, hr⟩ := h.row s v hf
    exact ⟨A, c, e, by rw [← e]; exact hr⟩
/-- One more notice: the row of its event grows, the map is written. -/
theorem Grp.step {w w4 w5 w6 : World} {B mb : Nat} {L : List It} {f : List UInt8 → Option Value} {x : It} {A : Option Addr} {c g cap : Nat} (h : Grp w B mb L f) (h4 : Below w.heap.size w w4)
    (hcur : (f x.n.a.ev.data.toList).getD (.slice none 0 0) = .slice A (grp L x.n.a.ev.data.toList).length c)
    (hown : w5.ownsRow B 54 10 (.slice (some ⟨g, 0, none⟩) ((grp L x.n.a.ev.data.toList).length + 1) cap) ((grp L x.n.a.ev.data.toList).length + 1) (itCells (grp L x.n.a.ev.data.toList) ++ x.lst))
    (hg : w4.grownBy w5 (Value.slice A (grp L x.n.a.ev.data.toList).length c).ownBlock) (hat : (Value.slice A (grp L x.n.a.ev.data.toList).length c).ownBlock = some g ∨ g = w4.heap.size)
    (hm6 : MapNs w6 mb (L.length + 1) (fun k => if k = x.n.a.ev.data.toList then some (.slice (some ⟨g, 0, none⟩) ((grp L x.n.a.ev.data.toList).length + 1) cap) else f k)) (hg6 : w5.grownBy w6 (some mb)) :
    Grp w6 B mb (L ++ [x]) (fun k => if k = x.n.a.ev.data.toList then some (.slice (some ⟨g, 0, none⟩) ((grp L x.n.a.ev.data.toList).length + 1) cap) else f k) := by
  have s4 := h4.size
  have K5 : Kp (fun i => (Value.slice A (grp L x.n.a.ev.data.toList).length c).ownBlock = some i) w w5 := (Kp.of_below h4).grown hg (fun k hk => .inl hk)
  have K6 : Kp (fun i => i = mb) w5 w6 := (Kp.refl _ _).grown hg6 (fun k hk => .inl (by cases hk; rfl))
  have far : ∀ t v, f t = some v → t ≠ x.n.a.ev.data.toList → ∀ i, v.ownBlock = some i → (Value.slice A (grp L x.n.a.ev.data.toList).length c).ownBlock ≠ some i := by
    intro t v hv hne i hi
    cases hf : f x.n.a.ev.data.toList with
    | none =>
      rw [hf] at hcur
      have : Value.slice none 0 0 = Value.slice A (grp L x.n.a.ev.data.toList).length c := hcur
      rw [← this]
      intro e
      cases e
    | some u =>
      rw [hf] at hcur
      have e : u = Value.slice A (grp L x.n.a.ev.data.toList).length c := hcur
      rw [← e]
      exact h.apart t _ v u hv hf hne i hi
  have lt_ : ∀ t v, f t = some v → ∀ i, v.ownBlock = some i → B ≤ i ∧ i < w.heap.size := fun t v hv i hi => own_lt (h.row t v hv).2 hi
  refine ⟨by rw [List.length_append]; exact hm6, fun s v hv => ?_, fun s hs => ?_, fun s v hs => ?_, fun s t u v hu hv hne i hi => ?_, h.mbB⟩
  · by_cases e : s = x.n.a.ev.data.toList
    · subst e
      rw [if_pos rfl] at hv
      cases hv
      rw [grp_snoc, if_pos rfl, List.length_append, itCells_snoc]
      refine ⟨⟨_, _, rfl⟩, own_keep hown K6 (fun i hi f => ?_)⟩
      have := (own_lt hown hi).1
      have := h.mbB
      omega
    · rw [if_neg e] at hv
      rw [grp_snoc, if_neg (fun e2 => e e2.symm)]
      refine ⟨(h.row s v hv).1, own_keep (own_keep (h.row s v hv).2 K5 (fun i hi => far s v hv e i hi)) K6 (fun i hi f => ?_)⟩
      have := (lt_ s v hv i hi).1
      have := h.mbB
      omega
  · by_cases e : s = x.n.a.ev.data.toList
    · rw [if_pos e] at hs; cases hs
    · rw [if_neg e] at hs
      rw [grp_snoc, if_neg (fun e2 => e e2.symm)]
      exact h.none_ s hs
  · rw [grp_snoc]
    split
    · simp
    · rename_i e
      rw [if_neg (fun e2 => e e2.symm)] at hs
      exact h.some_ s v hs
  · by_cases es : s = x.n.a.ev.data.toList
    · have et : t ≠ x.n.a.ev.data.toList := fun e => hne (es.trans e.symm)
      rw [if_pos es] at hu
      rw [if_neg et] at hv
      cases hu
      cases hi
      intro e
      rcases hat with h1 | h1
      · exact far t v hv et g e h1
      · have := (lt_ t v hv g e).2
        omega
    · rw [if_neg es] at hu
      by_cases et : t = x.n.a.ev.data.toList
      · rw [if_pos et] at hv
        cases hv
        intro e
        cases e
        rcases hat with h1 | h1
        · exact far s u hu es g hi h1
        · have := (lt_ s u hu g hi).2
          omega
      · rw [if_neg et] at hv
        exact h.apart s t u v hu hv hne i hi
end Go.Proofs.YtohfofecbdfkgaaGreatDoor
