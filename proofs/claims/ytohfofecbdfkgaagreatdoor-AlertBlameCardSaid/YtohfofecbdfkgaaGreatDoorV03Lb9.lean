/-
  The walk of twoWays: who signed two ways is found.
-/
import Derived.Test.YtohfofecbdfkgaaGreatDoorV02Lb9
import Derived.Test.YtohfofecbdfkgaaGreatDoorV01Lb9
namespace Go.Proofs.YtohfofecbdfkgaaGreatDoor
open Go.RowKit Al

/-- Is a notice one of a fork's event and version, and valid? -/
def pickF (ks : List (Int × Int)) (q : Int) (ev : ByteArray) (v : Int) (x : It) : Bool := x.n.a.ev.toList == ev.toList && (x.n.a.ver == v && noticeE ks q x.n == 0)
def iaOf (x : It) : Ia := ⟨x.n.a, x.A, x.c⟩
/-- An alert so often as someone signed it, of the first signatures. -/
def repF (s : Int) (x : It) (j : Nat) : List Ia := ((x.n.sg.take j).filter fun z => z.1 == s).map fun _ => iaOf x
def oneF (ks : List (Int × Int)) (q : Int) (ev : ByteArray) (v s : Int) (x : It) : List Ia := if pickF ks q ev v x then repF s x x.n.sg.length else []
def oneL (ks : List (Int × Int)) (q : Int) (ev : ByteArray) (v s : Int) (L : List It) : List Ia := L.flatMap (oneF ks q ev v s)
theorem oneL_snoc (ks : List (Int × Int)) (q : Int) (ev : ByteArray) (v s : Int) (L : List It) (x : It) : oneL ks q ev v s (L ++ [x]) = oneL ks q ev v s L ++ oneF ks q ev v s x := by simp [oneL]
theorem repF_next {s : Int} {x : It} {j : Nat} (hj : j < x.n.sg.length) : repF s x (j + 1) = repF s x j ++ if x.n.sg[j].1 == s then [iaOf x] else [] := by
  unfold repF
  rw [List.take_succ_eq_append_getElem hj, List.filter_append, List.map_append]
  congr 1
  rw [List.filter_cons]
  split <;> rfl
theorem repF_len (s : Int) (x : It) (j : Nat) : (repF s x j).length ≤ j := by
  unfold repF
  rw [List.length_map]
  exact Nat.le_trans (List.length_filter_le _ _) (by rw [List.length_take]; omega)
theorem oneF_len {ks : List (Int × Int)} {q : Int} {ev : ByteArray} {v s : Int} {x : It} (h8 : ks.length ≤ 8) : (oneF ks q ev v s x).length ≤ 8 := by
  unfold oneF
  split
  · rename_i h
    unfold pickF at h
    simp only [Bool.and_eq_true, beq_iff_eq] at h
    exact Nat.le_trans (repF_len _ _ _) (Nat.le_trans (noticeE_zero h.2.2).2 h8)
  · simp
theorem oneL_len {ks : List (Int × Int)} {q : Int} {ev : ByteArray} {v s : Int} (h8 : ks.length ≤ 8) : ∀ L : List It, (oneL ks q ev v s L).length ≤ 8 * L.length
  | [] => by simp [oneL]
  | x :: L => by
    have h1 := oneL_len (ks := ks) (q := q) (ev := ev) (v := v) (s := s) h8 L
    have h2 := oneF_len (ks := ks) (q := q) (ev := ev) (v := v) (s := s) (x := x) h8
    unfold oneL at h1 ⊢
    rw [List.flatMap_cons, List.length_append, List.length_cons]
    omega
theorem mem_oneL {ks : List (Int × Int)} {q : Int} {ev : ByteArray} {v s : Int} {L : List It} {x : It} (hx : x ∈ L) (hp : pickF ks q ev v x = true) (hs : s ∈ x.who) : iaOf x ∈ oneL ks q ev v s L := by
  refine List.mem_flatMap.2 ⟨x, hx, ?_⟩
  unfold oneF repF
  rw [if_pos hp, List.take_of_length_le (Nat.le_refl _)]
  obtain ⟨z, hz, rfl⟩ := List.mem_map.1 hs
  exact List.mem_map.2 ⟨z, List.mem_filter.2 ⟨hz, by simp⟩, rfl⟩
theorem CheckN_is (ks : List (Int × Int)) (q : Int) (K : Option Addr) (kc : Nat) (n : Ntc) (A : Option Addr) (c : Nat) (S : Option Addr) (sc : Nat) (w : World) (v : Int) (ho : rollOk ks q = true) (hv : noticeE ks q n = v) (hr : Rin w ks K kc) (hn : NIn w n A c S sc) (ht : Rdy w) :
    Calls Tryz.prog 74 #[rollV ks K kc q, n.val A c S sc] w fun e w' => e = .returned (.int .i64 v) ∧ Below w.heap.size w w' := by
  have h := CheckNotice_ ks q K kc n A c S sc w hr hn ht
  rw [show checkE ks q n = v by unfold checkE; rw [ho, hv]; rfl] at h
  exact h
def OneRel (W0 : World) (base : Nat) (ks : List (Int × Int)) (q : Int) (ev : ByteArray) (v s : Int) (L : List It) (o i : Value) (wr : World) : Prop :=
  ∃ (k : Nat) (A : Option Addr) (c : Nat), k ≤ L.length ∧ o = .slice A (oneL ks q ev v s (L.take k)).length c ∧ i = .int .i64 k ∧ wr.ownsRow base 48 9 (.slice A (oneL ks q ev v s (L.take k)).length c) (oneL ks q ev v s (L.take k)).length (iaCells (oneL ks q ev v s (L.take k))) ∧ Below base W0 wr
def OnjRel (w3 : World) (base : Nat) (M : List Ia) (ow : Option Nat) (s : Int) (x : It) (o j : Value) (wr : World) : Prop :=
  ∃ (k : Nat) (A : Option Addr) (c : Nat), k ≤ x.n.sg.length ∧ o = .slice A (M ++ repF s x k).length c ∧ j = .int .i64 k ∧ wr.ownsRow base 48 9 (.slice A (M ++ repF s x k).length c) (M ++ repF s x k).length (iaCells (M ++ repF s x k)) ∧ Kp (fun i => ow = some i) w3 wr ∧
    ∀ i, (Value.slice A (M ++ repF s x k).length c).ownBlock = some i → ow = some i ∨ w3.heap.size ≤ i
def AllRel (M : List Ia) (y : Ia) (w2 : World) (i : Value) (wr : World) : Prop := ∃ k : Nat, k ≤ M.length ∧ i = .int .i64 k ∧ Hid (∀ z ∈ M.take k, z.a = y.a) ∧ Below w2.heap.size w2 wr
set_option maxRecDepth 100000 in
set_option maxHeartbeats 8000000 in
theorem twoWays_ (ks : List (Int × Int)) (q : Int) (K : Option Addr) (kc : Nat) (L : List It) (N : Option Addr) (nc : Nat) (ev : ByteArray) (v : Int) (fn : Nat) (FA : Option Addr) (fc : Nat) (s : Int) (w : World) (ho : rollOk ks q = true) (hr : Rin w ks K kc) (ht : Rdy w) (hL : Sl w w.heap.size 10 N L.length nc (itCells L)) (hI : ∀ x ∈ L, NIn w x.n x.A x.c x.S x.sc) (h64 : L.length ≤ 64)
    (h2 : ∃ x ∈ L, ∃ y ∈ L, pickF ks q ev v x = true ∧ pickF ks q ev v y = true ∧ x.n.a ≠ y.n.a ∧ s ∈ x.who ∧ s ∈ y.who) :
    Calls Tryz.prog 31 #[rollV ks K kc q, .slice N L.length nc, .agg #[.string ev, .int .i64 v, .slice FA fn fc], .int .i64 s] w fun e w' => e = .returned (.bool true) ∧ Below w.heap.size w w' := by
  obtain ⟨i0, hi, hz0, hz1, hz2⟩ := info_parts infoAl
  have h8 := rollOk_len ho
  have HRO := Lib.hid ho
  have HR : Hid (∀ W, Below w.heap.size w W → Rin W ks K kc) := fun W hW => hr.below hW
  have HT : Hid (∀ W, Below w.heap.size w W → Rdy W) := fun W hW => ht.below hW
  have HL := Lib.hid hL
  have HI : Hid (∀ W, Below w.heap.size w W → ∀ x ∈ L, NIn W x.n x.A x.c x.S x.sc) := fun W hW x hx => (hI x hx).below hW
  have H2 := Lib.hid h2
  clear ho hr ht hL hI h2
  go_enter Tryz.func31, Tryz.ntmps31
  go_wp2_with fail
  obtain ⟨W0, hW0⟩ : ∃ W0, W0 = (w.alloc (.cells #[.slice K ks.length kc, .int .i64 q] 24)).alloc (.cells #[.string ev, .int .i64 v, .slice FA fn fc] 73) := ⟨_, rfl⟩
  have zW : W0.heap.size = w.heap.size + 1 + 1 := by rw [hW0]; simp
  have HBW0 : Hid (Below w.heap.size w W0) := by show Below _ _ _; rw [hW0]; (repeat (first | exact Below.refl _ _ | assumption | refine below_drewN ?_ _ | refine Below.drew ?_ | refine Below.setCell ?_ (by first | omega | (simp; done) | (simp; omega)) _ | refine Below.alloc ?_ (by first | omega | (simp; done) | (simp; omega)) _))
  have c0 : W0.cell? ⟨w.heap.size, 0, none⟩ = some (.slice K ks.length kc) := by rw [hW0]; simp [go_sem]
  have c1 : W0.cell? ⟨w.heap.size, 1, none⟩ = some (.int .i64 q) := by rw [hW0]; simp [go_sem]
  have d0 : W0.cell? ⟨w.heap.size + 1, 0, none⟩ = some (.string ev) := by rw [hW0]; simp [go_sem]
  have d1 : W0.cell? ⟨w.heap.size + 1, 1, none⟩ = some (.int .i64 v) := by rw [hW0]; simp [go_sem]
  have HC := Lib.hid (And.intro c0 (And.intro c1 (And.intro d0 d1)))
  clear c0 c1 d0 d1
  rw [← hW0]
  clear hW0
  go_loopw [9, 10] (fun o i wr => OneRel W0 (w.heap.size + 1 + 1) ks q ev v s L o i wr) (fun _ i _ => L.length - (Go.RowKit.intOf i).toNat)
  case atStart => exact ⟨0, none, 0, Nat.zero_le _, rfl, rfl, World.ownsRow_nil _ _ _ _, Below.refl _ _⟩
  case round =>
    obtain ⟨k, A, c, hk, rfl, rfl, hown, hB⟩ := hrel
    have hsz := hB.size
    have HB := Lib.hid hB
    have HO := Lib.hid hown
    have HBw : Hid (Below w.heap.size w wr) := HBW0.out.trans (hB.mono (by omega))
    have r0 : wr.cell? ⟨w.heap.size, 0, none⟩ = some (.slice K ks.length kc) := (hB.cell (p := ⟨w.heap.size, 0, none⟩) (by show w.heap.size < _; omega)).trans HC.out.1
    have r1 : wr.cell? ⟨w.heap.size, 1, none⟩ = some (.int .i64 q) := (hB.cell (p := ⟨w.heap.size, 1, none⟩) (by show w.heap.size < _; omega)).trans HC.out.2.1
    have d0 : wr.cell? ⟨w.heap.size + 1, 0, none⟩ = some (.string ev) := (hB.cell (p := ⟨w.heap.size + 1, 0, none⟩) (by show w.heap.size + 1 < _; omega)).trans HC.out.2.2.1
    have d1 : wr.cell? ⟨w.heap.size + 1, 1, none⟩ = some (.int .i64 v) := (hB.cell (p := ⟨w.heap.size + 1, 1, none⟩) (by show w.heap.size + 1 < _; omega)).trans HC.out.2.2.2
    have lw0 : w.heap.size < wr.heap.size := by omega
    have lw1 : w.heap.size + 1 < wr.heap.size := by omega
    clear hB hown
    by_cases hlt : k < L.length
    · obtain ⟨nb, off, rfl, hnb, y0, y1, y2, y3, y4, y5, y6, y7, y8, y9⟩ := (HL.out.below HBw.out).it_at hlt
      have i0' : (0 : Int) ≤ (k : Int) := by omega
      have i1' : (k : Int) < (L.length : Int) := by omega
      have hnb2 : nb < wr.heap.size := by omega
      have HTK : Hid (L.take (k + 1) = L.take k ++ [L[k]]) := List.take_succ_eq_append_getElem hlt
      have HNx := Lib.hid (HI.out wr HBw.out L[k] (List.getElem_mem hlt))
      have HXI := Lib.hid (HI.out w (Below.refl _ _) L[k] (List.getElem_mem hlt))
      have HRx := Lib.hid (HR.out wr HBw.out)
      have HTx := Lib.hid (HT.out wr HBw.out)
      obtain ⟨x, hx⟩ : ∃ x, x = L[k] := ⟨_, rfl⟩
      rw [← hx] at y0 y1 y2 y3 y4 y5 y6 y7 y8 y9 HTK HNx HXI
      have HY9 := Lib.hid ((HBw.out.cell (p := ⟨nb, off + k * 10 + 9, none⟩) hnb).symm.trans y9)
      clear hx
      have hml := oneL_len (ks := ks) (q := q) (ev := ev) (v := v) (s := s) h8 (L.take k)
      rw [List.length_take] at hml
      obtain ⟨M, hM⟩ : ∃ M, M = oneL ks q ev v s (L.take k) := ⟨_, rfl⟩
      have HST : Hid (oneL ks q ev v s (L.take (k + 1)) = M ++ oneF ks q ev v s x) := by show _ = _; rw [HTK.out, oneL_snoc, hM]
      rw [← hM] at HO hml
      rw [← hM]
      clear hM
      have hM2 : M.length ≤ 512 := by omega
      obtain ⟨nv, hnv⟩ : ∃ nv, noticeE ks q x.n = nv := ⟨_, rfl⟩
      have HNV := Lib.hid hnv
      cases he1 : (x.n.a.ev.toList == ev.toList) with
      | false =>
        have HNO : Hid (oneL ks q ev v s (L.take (k + 1)) = M) := by show _ = _; rw [HST.out]; unfold oneF pickF; rw [he1]; simp
        clear hnv
        go_wp2_with fail
        refine wp_region_bw2 (by kernel_rfl) (by kernel_rfl) (fun hbwc => ?_)
        repeat (go_big_quiet_step (fail))
        refine wpQuiet_nil ?_
        clear hbwc
        intro w3 hb
        have HB3 := Lib.hid (HB.out.trans (Below.mono ((show Below wr.heap.size wr _ from (by (repeat (first | exact Below.refl _ _ | assumption | refine below_drewN ?_ _ | refine Below.drew ?_ | refine Below.setCell ?_ (by first | omega | (simp; done) | (simp; omega)) _ | refine Below.alloc ?_ (by first | omega | (simp; done) | (simp; omega)) _)))).trans (hb.mono (by first | omega | (simp; done) | (simp; omega)))) (by omega)))
        have HBw3 := Lib.hid ((show Below wr.heap.size wr _ from (by (repeat (first | exact Below.refl _ _ | assumption | refine below_drewN ?_ _ | refine Below.drew ?_ | refine Below.setCell ?_ (by first | omega | (simp; done) | (simp; omega)) _ | refine Below.alloc ?_ (by first | omega | (simp; done) | (simp; omega)) _)))).trans (hb.mono (by first | omega | (simp; done) | (simp; omega))))
        clear hb
        go_wp2_with fail
        go_roundw
        case rel => exact ⟨k + 1, A, c, by omega, by rw [HNO.out], by go_num, by rw [HNO.out]; exact own_below HO.out (Nat.le_refl _) HBw3.out, HB3.out⟩
        case measure => simp [Go.RowKit.intOf]; omega
      | true =>
        cases he2 : (x.n.a.ver == v) with
        | false =>
          have he2' : (x.n.a.ver != v) = true := by rw [bne, he2]; rfl
          have HNO : Hid (oneL ks q ev v s (L.take (k + 1)) = M) := by show _ = _; rw [HST.out]; unfold oneF pickF; rw [he1, he2]; simp
          clear hnv
          go_wp2_with fail
          refine wp_region_bw2 (by kernel_rfl) (by kernel_rfl) (fun hbwc => ?_)
          repeat (go_big_quiet_step (fail))
          refine wpQuiet_nil ?_
          clear hbwc
          intro w3 hb
          have HB3 := Lib.hid (HB.out.trans (Below.mono ((show Below wr.heap.size wr _ from (by (repeat (first | exact Below.refl _ _ | assumption | refine below_drewN ?_ _ | refine Below.drew ?_ | refine Below.setCell ?_ (by first | omega | (simp; done) | (simp; omega)) _ | refine Below.alloc ?_ (by first | omega | (simp; done) | (simp; omega)) _)))).trans (hb.mono (by first | omega | (simp; done) | (simp; omega)))) (by omega)))
          have HBw3 := Lib.hid ((show Below wr.heap.size wr _ from (by (repeat (first | exact Below.refl _ _ | assumption | refine below_drewN ?_ _ | refine Below.drew ?_ | refine Below.setCell ?_ (by first | omega | (simp; done) | (simp; omega)) _ | refine Below.alloc ?_ (by first | omega | (simp; done) | (simp; omega)) _)))).trans (hb.mono (by first | omega | (simp; done) | (simp; omega))))
          clear hb
          go_wp2_with fail
          go_roundw
          case rel => exact ⟨k + 1, A, c, by omega, by rw [HNO.out], by go_num, by rw [HNO.out]; exact own_below HO.out (Nat.le_refl _) HBw3.out, HB3.out⟩
          case measure => simp [Go.RowKit.intOf]; omega
        | true =>
          have he2' : (x.n.a.ver != v) = false := by rw [bne, he2]; rfl
          cases he3 : (nv == 0) with
          | false =>
            have he3' : (nv != 0) = true := by rw [bne, he3]; rfl
            have HNO : Hid (oneL ks q ev v s (L.take (k + 1)) = M) := by show _ = _; rw [HST.out]; unfold oneF pickF; rw [he1, he2, hnv, he3]; simp
            clear hnv
            go_wp2_with fail
            refine wp_region_bw2 (by kernel_rfl) (by kernel_rfl) (fun hbwc => ?_)
            repeat (go_big_quiet_step ((go_at_call 74; exact bwCall (CheckN_is ks q K kc x.n x.A x.c x.S x.sc _ nv HRO.out HNV.out (Rin.below (Rin.below HRx.out (by (repeat (first | exact Below.refl _ _ | assumption | refine below_drewN ?_ _ | refine Below.drew ?_ | refine Below.setCell ?_ (by first | omega | (simp; done) | (simp; omega)) _ | refine Below.alloc ?_ (by first | omega | (simp; done) | (simp; omega)) _)))) (BW.below _)) (NIn.below (NIn.below HNx.out (by (repeat (first | exact Below.refl _ _ | assumption | refine below_drewN ?_ _ | refine Below.drew ?_ | refine Below.setCell ?_ (by first | omega | (simp; done) | (simp; omega)) _ | refine Below.alloc ?_ (by first | omega | (simp; done) | (simp; omega)) _)))) (BW.below _)) (Rdy.below (Rdy.below HTx.out (by (repeat (first | exact Below.refl _ _ | assumption | refine below_drewN ?_ _ | refine Below.drew ?_ | refine Below.setCell ?_ (by first | omega | (simp; done) | (simp; omega)) _ | refine Below.alloc ?_ (by first | omega | (simp; done) | (simp; omega)) _)))) (BW.below _))))))
            refine wpQuiet_nil ?_
            clear hbwc
            intro w3 hb
            have HB3 := Lib.hid (HB.out.trans (Below.mono ((show Below wr.heap.size wr _ from (by (repeat (first | exact Below.refl _ _ | assumption | refine below_drewN ?_ _ | refine Below.drew ?_ | refine Below.setCell ?_ (by first | omega | (simp; done) | (simp; omega)) _ | refine Below.alloc ?_ (by first | omega | (simp; done) | (simp; omega)) _)))).trans (hb.mono (by first | omega | (simp; done) | (simp; omega)))) (by omega)))
            have HBw3 := Lib.hid ((show Below wr.heap.size wr _ from (by (repeat (first | exact Below.refl _ _ | assumption | refine below_drewN ?_ _ | refine Below.drew ?_ | refine Below.setCell ?_ (by first | omega | (simp; done) | (simp; omega)) _ | refine Below.alloc ?_ (by first | omega | (simp; done) | (simp; omega)) _)))).trans (hb.mono (by first | omega | (simp; done) | (simp; omega))))
            clear hb
            go_wp2_with fail
            go_roundw
            case rel => exact ⟨k + 1, A, c, by omega, by rw [HNO.out], by go_num, by rw [HNO.out]; exact own_below HO.out (Nat.le_refl _) HBw3.out, HB3.out⟩
            case measure => simp [Go.RowKit.intOf]; omega
          | true =>
            have he3' : (nv != 0) = false := by rw [bne, he3]; rfl
            have HPK : Hid (oneL ks q ev v s (L.take (k + 1)) = M ++ repF s x x.n.sg.length) := by show _ = _; rw [HST.out]; unfold oneF pickF; rw [he1, he2, hnv, he3]; simp
            have hsg := (noticeE_zero (n := x.n) (by rw [hnv]; simpa using he3)).2
            clear hnv
            go_wp2_with fail
            refine wp_region_bw2 (by kernel_rfl) (by kernel_rfl) (fun hbwc => ?_)
            repeat (go_big_quiet_step ((go_at_call 74; exact bwCall (CheckN_is ks q K kc x.n x.A x.c x.S x.sc _ nv HRO.out HNV.out (Rin.below (Rin.below HRx.out (by (repeat (first | exact Below.refl _ _ | assumption | refine below_drewN ?_ _ | refine Below.drew ?_ | refine Below.setCell ?_ (by first | omega | (simp; done) | (simp; omega)) _ | refine Below.alloc ?_ (by first | omega | (simp; done) | (simp; omega)) _)))) (BW.below _)) (NIn.below (NIn.below HNx.out (by (repeat (first | exact Below.refl _ _ | assumption | refine below_drewN ?_ _ | refine Below.drew ?_ | refine Below.setCell ?_ (by first | omega | (simp; done) | (simp; omega)) _ | refine Below.alloc ?_ (by first | omega | (simp; done) | (simp; omega)) _)))) (BW.below _)) (Rdy.below (Rdy.below HTx.out (by (repeat (first | exact Below.refl _ _ | assumption | refine below_drewN ?_ _ | refine Below.drew ?_ | refine Below.setCell ?_ (by first | omega | (simp; done) | (simp; omega)) _ | refine Below.alloc ?_ (by first | omega | (simp; done) | (simp; omega)) _)))) (BW.below _))))))
            refine wpQuiet_nil ?_
            clear hbwc
            intro w3 hb
            have HB3 := Lib.hid (HB.out.trans (Below.mono ((show Below wr.heap.size wr _ from (by (repeat (first | exact Below.refl _ _ | assumption | refine below_drewN ?_ _ | refine Below.drew ?_ | refine Below.setCell ?_ (by first | omega | (simp; done) | (simp; omega)) _ | refine Below.alloc ?_ (by first | omega | (simp; done) | (simp; omega)) _)))).trans (hb.mono (by first | omega | (simp; done) | (simp; omega)))) (by omega)))
            have HBw3 := Lib.hid ((show Below wr.heap.size wr _ from (by (repeat (first | exact Below.refl _ _ | assumption | refine below_drewN ?_ _ | refine Below.drew ?_ | refine Below.setCell ?_ (by first | omega | (simp; done) | (simp; omega)) _ | refine Below.alloc ?_ (by first | omega | (simp; done) | (simp; omega)) _)))).trans (hb.mono (by first | omega | (simp; done) | (simp; omega))))
            have q0 : w3.cell? ⟨wr.heap.size, 0, none⟩ = some (.string x.n.a.ev) := (hb.cell (p := ⟨wr.heap.size, 0, none⟩) (by simp)).trans (by simp [go_sem])
            have q1 : w3.cell? ⟨wr.heap.size, 1, none⟩ = some (.int .i64 x.n.a.ver) := (hb.cell (p := ⟨wr.heap.size, 1, none⟩) (by simp)).trans (by simp [go_sem])
            have q2 : w3.cell? ⟨wr.heap.size, 2, none⟩ = some (.int .i64 x.n.a.tm) := (hb.cell (p := ⟨wr.heap.size, 2, none⟩) (by simp)).trans (by simp [go_sem])
            have q3 : w3.cell? ⟨wr.heap.size, 3, none⟩ = some (.int .i64 x.n.a.n) := (hb.cell (p := ⟨wr.heap.size, 3, none⟩) (by simp)).trans (by simp [go_sem])
            have q4 : w3.cell? ⟨wr.heap.size, 4, none⟩ = some (.int .i64 x.n.a.of) := (hb.cell (p := ⟨wr.heap.size, 4, none⟩) (by simp)).trans (by simp [go_sem])
            have q5 : w3.cell? ⟨wr.heap.size, 5, none⟩ = some (.int .i64 x.n.a.grid) := (hb.cell (p := ⟨wr.heap.size, 5, none⟩) (by simp)).trans (by simp [go_sem])
            have q6 : w3.cell? ⟨wr.heap.size, 6, none⟩ = some (.slice x.A x.n.a.cells.length x.c) := (hb.cell (p := ⟨wr.heap.size, 6, none⟩) (by simp)).trans (by simp [go_sem])
            have q7 : w3.cell? ⟨wr.heap.size, 7, none⟩ = some (.bool x.n.a.wd) := (hb.cell (p := ⟨wr.heap.size, 7, none⟩) (by simp)).trans (by simp [go_sem])
            have q8 : w3.cell? ⟨wr.heap.size, 8, none⟩ = some (.int .i64 x.n.a.before) := (hb.cell (p := ⟨wr.heap.size, 8, none⟩) (by simp)).trans (by simp [go_sem])
            have lx3 : wr.heap.size < w3.heap.size := by have := hb.size; simp at this; omega
            have HQ := Lib.hid (And.intro q0 (And.intro q1 (And.intro q2 (And.intro q3 (And.intro q4 (And.intro q5 (And.intro q6 (And.intro q7 q8))))))))
            clear q0 q1 q2 q3 q4 q5 q6 q7 q8
            clear hb
            have sz3 := HBw3.out.size
            have HO3 := Lib.hid (own_below HO.out (Nat.le_refl _) HBw3.out)
            obtain ⟨xb, hxb⟩ : ∃ xb, xb = wr.heap.size := ⟨_, rfl⟩
            have HLT : Hid (∀ i, (Value.slice A M.length c).ownBlock = some i → w.heap.size + 1 + 1 ≤ i ∧ i < xb) := fun i hi => by rw [hxb]; exact own_lt HO.out hi
            rw [← hxb] at HQ lx3
            have hx1 : wr.heap.size ≤ xb := by omega
            have hx2 : xb ≤ wr.heap.size := by omega
            go_wp2_with fail
            rw [← hxb]
            clear hxb
            go_loopw [9, 12] (fun o j wz => OnjRel w3 (w.heap.size + 1 + 1) M (Value.slice A M.length c).ownBlock s x o j wz) (fun _ j _ => x.n.sg.length - (Go.RowKit.intOf j).toNat)
            case atStart => exact ⟨0, A, c, Nat.zero_le _, by simp [repF], rfl, by simpa [repF] using HO3.out, Kp.refl _ _, fun i hi => .inl (by simpa [repF] using hi)⟩
            case round =>
              obtain ⟨j, A', c', hj, rfl, rfl, hown', hKp, hat⟩ := hrel
              have HOj := Lib.hid hown'
              have HKj := Lib.hid hKp
              have HAT := Lib.hid hat
              have HBj := Lib.hid (HB3.out.trans (hKp.below (by omega) (fun i hi => (HLT.out i hi).1)))
              have HBwj : Hid (Below w.heap.size w wr) := HBW0.out.trans (HBj.out.mono (by omega))
              have zj := hKp.size
              have y9j : wr.cell? ⟨nb, off + k * 10 + 9, none⟩ = some (.slice x.S x.n.sg.length x.sc) := (HBwj.out.cell (p := ⟨nb, off + k * 10 + 9, none⟩) hnb).trans HY9.out
              have hnb3 : nb < wr.heap.size := by omega
              clear hown' hKp hat
              by_cases hjl : j < x.n.sg.length
              · obtain ⟨sb, so, e, hsb, s0, s1⟩ := ((HXI.out.sl).below HBwj.out).key_at hjl
                rw [e] at y9j
                clear e
                have m0 : (0 : Int) ≤ (j : Int) := by omega
                have m1 : (j : Int) < (x.n.sg.length : Int) := by omega
                have hsb2 : sb < wr.heap.size := by omega
                have hrl := repF_len s x j
                have HRN := Lib.hid (repF_next (s := s) hjl)
                have hnot : (Value.slice A M.length c).ownBlock ≠ some xb := fun e => by have := (HLT.out xb e).2; omega
                have t0 := (HKj.out.cell (p := ⟨xb, 0, none⟩) lx3 hnot).trans HQ.out.1
                have t1 := (HKj.out.cell (p := ⟨xb, 1, none⟩) lx3 hnot).trans HQ.out.2.1
                have t2 := (HKj.out.cell (p := ⟨xb, 2, none⟩) lx3 hnot).trans HQ.out.2.2.1
                have t3 := (HKj.out.cell (p := ⟨xb, 3, none⟩) lx3 hnot).trans HQ.out.2.2.2.1
                have t4 := (HKj.out.cell (p := ⟨xb, 4, none⟩) lx3 hnot).trans HQ.out.2.2.2.2.1
                have t5 := (HKj.out.cell (p := ⟨xb, 5, none⟩) lx3 hnot).trans HQ.out.2.2.2.2.2.1
                have t6 := (HKj.out.cell (p := ⟨xb, 6, none⟩) lx3 hnot).trans HQ.out.2.2.2.2.2.2.1
                have t7 := (HKj.out.cell (p := ⟨xb, 7, none⟩) lx3 hnot).trans HQ.out.2.2.2.2.2.2.2.1
                have t8 := (HKj.out.cell (p := ⟨xb, 8, none⟩) lx3 hnot).trans HQ.out.2.2.2.2.2.2.2.2
                have lxr : xb < wr.heap.size := by omega
                clear hnot
                cases hs : (x.n.sg[j].1 == s) with
                | false =>
                  have HNO : Hid (repF s x (j + 1) = repF s x j) := by show _ = _; rw [HRN.out, hs]; simp
                  clear t0 t1 t2 t3 t4 t5 t6 t7 t8
                  obtain ⟨Z, hZ⟩ : ∃ Z, Z = M ++ repF s x j := ⟨_, rfl⟩
                  have HZ := Lib.hid hZ
                  rw [← hZ] at HOj HAT
                  rw [← hZ]
                  clear hZ
                  go_wp2_with fail
                  go_roundw
                  case rel => exact ⟨j + 1, A', c', by omega, by rw [HNO.out, ← HZ.out], by go_num, by rw [HNO.out, ← HZ.out]; exact HOj.out, HKj.out, by rw [HNO.out, ← HZ.out]; exact HAT.out⟩
                  case measure => simp [Go.RowKit.intOf]; omega
                | true =>
                  have HNO : Hid (M ++ repF s x (j + 1) = (M ++ repF s x j) ++ [iaOf x]) := by show _ = _; rw [HRN.out, hs, if_pos rfl, List.append_assoc]
                  have hZl : (M ++ repF s x j).length ≤ 520 := by rw [List.length_append]; omega
                  obtain ⟨Z, hZ⟩ : ∃ Z, Z = M ++ repF s x j := ⟨_, rfl⟩
                  rw [← hZ] at HOj HAT HNO hZl
                  rw [← hZ]
                  clear hZ
                  go_wp2_with (at_builtin; go_must (refine wpList_append_lies _ rfl _ _ 60 rfl (w.heap.size + 1 + 1) 48 i0 (.agg #[.string ⟨#[]⟩, .int .i64 0, .int .i64 0, .int .i64 0, .int .i64 0, .int .i64 0, .slice none 0 0, .bool false, .int .i64 0]) 9 96 Tryz.underlying60 hi hz0 hz1 hz2 rfl (by decide) (.slice A' Z.length c') Z.length (iaCells Z) rfl (own_below HOj.out (Nat.le_refl _) ((Below.refl _ _).alloc (Nat.le_refl _) _)) _ 1 1 (iaOf x).lst rfl rfl (World.news_of_block (heap_alloc_new wr _)) (alst_one _ _ _) (by decide) (by unfold maxLen; omega) (by omega) (by simp; omega) _ rfl ?_); intro g cap w9 hown9 hg9 hat9 hlt9; have HG9 := Lib.hid hg9; have HO9 := Lib.hid hown9; clear hg9 hown9)
                  go_roundw
                  case rel =>
                    have hR : OnjRel w3 (w.heap.size + 1 + 1) M (Value.slice A M.length c).ownBlock s x (.slice (some ⟨g, 0, none⟩) (Z.length + 1) cap) (.int .i64 ((j : Int) + 1)) w9 := by
                      refine ⟨j + 1, some ⟨g, 0, none⟩, cap, by omega, by rw [HNO.out, List.length_append]; rfl, by go_num, ?_, ?_, fun i hi => ?_⟩
                      · rw [HNO.out, List.length_append, iaCells_snoc]
                        exact HO9.out
                      · exact (HKj.out.then_below ((Below.refl _ _).alloc (Nat.le_refl _) _)).grown HG9.out (fun i hi => HAT.out i hi)
                      · cases hi
                        rcases hat9 with h1 | h1
                        · exact HAT.out g h1
                        · right
                          rw [h1]
                          simp
                          omega
                    (first | exact hR | ((repeat apply Exists.intro); refine ⟨hR, ?_⟩; (repeat refine ⟨rfl, ?_⟩); exact rfl))
                  case measure => simp [Go.RowKit.intOf]; omega
              · obtain rfl : j = x.n.sg.length := by omega
                obtain ⟨Z, hZ⟩ : ∃ Z, Z = M ++ repF s x x.n.sg.length := ⟨_, rfl⟩
                rw [← hZ] at HOj HPK
                rw [← hZ]
                clear hZ
                go_wp2_with fail
                go_roundw
                case rel => exact ⟨k + 1, A', c', by omega, by rw [HPK.out], by go_num, by rw [HPK.out]; exact HOj.out, HBj.out⟩
                case measure => simp [Go.RowKit.intOf]; omega
    · obtain rfl : k = L.length := by omega
      rw [List.take_length] at HO
      rw [List.take_length]
      have HXY : Hid (∃ x ∈ oneL ks q ev v s L, ∃ y ∈ oneL ks q ev v s L, x.a ≠ y.a) := by
        obtain ⟨x, hx, y, hy, h1, h2, h3, h4, h5⟩ := H2.out
        exact ⟨_, mem_oneL hx h1 h4, _, mem_oneL hy h2 h5, h3⟩
      have hZl := oneL_len (ks := ks) (q := q) (ev := ev) (v := v) (s := s) h8 L
      have HIA : Hid (∀ W, Below w.heap.size w W → ∀ z ∈ oneL ks q ev v s L, AIn W z.a z.A z.c) := fun W hW z hz => by
        obtain ⟨x, hx, h⟩ := List.mem_flatMap.1 hz
        unfold oneF at h
        split at h
        · unfold repF at h
          obtain ⟨_, _, rfl⟩ := List.mem_map.1 h
          exact (HI.out W hW x hx).al
        · cases h
      obtain ⟨Z, hZ⟩ : ∃ Z, Z = oneL ks q ev v s L := ⟨_, rfl⟩
      rw [← hZ] at HO HXY hZl HIA
      rw [← hZ]
      clear hZ
      have hZ0 : 0 < Z.length := by obtain ⟨x, hx, _⟩ := HXY.out; exact List.length_pos_of_mem hx
      have HS := Lib.hid (Sl.of_own HO.out)
      obtain ⟨y, hy⟩ : ∃ y, y = Z[0] := ⟨_, rfl⟩
      have HYY := Lib.hid hy
      clear hy
      go_wp2_with fail
      go_loopw [13] (fun i wz => AllRel Z y wr i wz) (fun i _ => Z.length - (Go.RowKit.intOf i).toNat)
      case atStart => exact ⟨0, Nat.zero_le _, rfl, (by show ∀ z ∈ Z.take 0, z.a = y.a; simp), Below.refl _ _⟩
      case round =>
        obtain ⟨i, hi', rfl, HALL, hB9⟩ := hrel
        have HB9 := Lib.hid hB9
        have HBw9 := Lib.hid (HBw.out.trans (hB9.mono HBw.out.size))
        have sz9 := hB9.size
        clear hB9
        by_cases hil : i < Z.length
        · obtain ⟨zb, zo, rfl, hzb, y0, y1, y2, y3, y4, y5, y6, y7, y8⟩ := (HS.out.below HB9.out).al_at hZ0
          obtain ⟨zb', zo', e2, hzb', z0, z1, z2, z3, z4, z5, z6, z7, z8⟩ := (HS.out.below HB9.out).al_at hil
          cases e2
          simp only [Nat.zero_mul, Nat.add_zero] at y0 y1 y2 y3 y4 y5 y6 y7 y8
          have m0 : (0 : Int) ≤ (i : Int) := by omega
          have m1 : (i : Int) < (Z.length : Int) := by omega
          have m2 : (0 : Int) < (Z.length : Int) := by omega
          have hzb2 : zb < wr.heap.size := by omega
          have HA1 := Lib.hid (HIA.out wr HBw9.out Z[0] (List.getElem_mem hZ0))
          have HA2 := Lib.hid (HIA.out wr HBw9.out Z[i] (List.getElem_mem hil))
          have HTK : Hid (Z.take (i + 1) = Z.take i ++ [Z[i]]) := List.take_succ_eq_append_getElem hil
          have e1 := HYY.out
          rw [← e1] at y0 y1 y2 y3 y4 y5 y6 y7 y8 HA1
          clear e1
          obtain ⟨u, hu⟩ : ∃ u, u = Z[i] := ⟨_, rfl⟩
          rw [← hu] at z0 z1 z2 z3 z4 z5 z6 z7 z8 HA2 HTK
          clear hu
          cases hsb : sameB y.a u.a with
          | true =>
            have HSB := Lib.hid hsb
            have HNX : Hid (∀ z ∈ Z.take (i + 1), z.a = y.a) := fun z hz => by
              rw [HTK.out] at hz
              rcases List.mem_append.1 hz with h | h
              · exact HALL.out z h
              · rw [List.mem_singleton.1 h]
                exact (sameB_iff.1 hsb).symm
            clear hsb
            go_wp2_with fail
            refine wp_region_bw2 (by kernel_rfl) (by kernel_rfl) (fun hbwc => ?_)
            repeat (go_big_quiet_step ((go_at_call 34; exact bwCall (pSame_ y.a u.a y.A y.c u.A u.c _ (AIn.below (AIn.below HA1.out (by (repeat (first | exact Below.refl _ _ | assumption | refine below_drewN ?_ _ | refine Below.drew ?_ | refine Below.setCell ?_ (by first | omega | (simp; done) | (simp; omega)) _ | refine Below.alloc ?_ (by first | omega | (simp; done) | (simp; omega)) _)))) (BW.below _)) (AIn.below (AIn.below HA2.out (by (repeat (first | exact Below.refl _ _ | assumption | refine below_drewN ?_ _ | refine Below.drew ?_ | refine Below.setCell ?_ (by first | omega | (simp; done) | (simp; omega)) _ | refine Below.alloc ?_ (by first | omega | (simp; done) | (simp; omega)) _)))) (BW.below _)) true HSB.out))))
            refine wpQuiet_nil ?_
            clear hbwc
            intro w3 hb
            have HB3 := Lib.hid (HB9.out.trans (Below.mono ((show Below wr.heap.size wr _ from (by (repeat (first | exact Below.refl _ _ | assumption | refine below_drewN ?_ _ | refine Below.drew ?_ | refine Below.setCell ?_ (by first | omega | (simp; done) | (simp; omega)) _ | refine Below.alloc ?_ (by first | omega | (simp; done) | (simp; omega)) _)))).trans (hb.mono (by first | omega | (simp; done) | (simp; omega)))) HB9.out.size))
            clear hb
            go_wp2_with fail
            go_roundw
            case rel => exact ⟨i + 1, by omega, by go_num, HNX, HB3.out⟩
            case measure => simp [Go.RowKit.intOf]; omega
          | false =>
            have HSB := Lib.hid hsb
            clear hsb
            go_wp2_with fail
            refine wp_region_bw2 (by kernel_rfl) (by kernel_rfl) (fun hbwc => ?_)
            repeat (go_big_quiet_step ((go_at_call 34; exact bwCall (pSame_ y.a u.a y.A y.c u.A u.c _ (AIn.below (AIn.below HA1.out (by (repeat (first | exact Below.refl _ _ | assumption | refine below_drewN ?_ _ | refine Below.drew ?_ | refine Below.setCell ?_ (by first | omega | (simp; done) | (simp; omega)) _ | refine Below.alloc ?_ (by first | omega | (simp; done) | (simp; omega)) _)))) (BW.below _)) (AIn.below (AIn.below HA2.out (by (repeat (first | exact Below.refl _ _ | assumption | refine below_drewN ?_ _ | refine Below.drew ?_ | refine Below.setCell ?_ (by first | omega | (simp; done) | (simp; omega)) _ | refine Below.alloc ?_ (by first | omega | (simp; done) | (simp; omega)) _)))) (BW.below _)) false HSB.out))))
            refine wpQuiet_nil ?_
            clear hbwc
            intro w3 hb
            have HB3 := Lib.hid (HBw9.out.trans (Below.mono ((show Below wr.heap.size wr _ from (by (repeat (first | exact Below.refl _ _ | assumption | refine below_drewN ?_ _ | refine Below.drew ?_ | refine Below.setCell ?_ (by first | omega | (simp; done) | (simp; omega)) _ | refine Below.alloc ?_ (by first | omega | (simp; done) | (simp; omega)) _)))).trans (hb.mono (by first | omega | (simp; done) | (simp; omega)))) HBw9.out.size))
            clear hb
            go_wp2_with fail
            go_ret
            exact ⟨rfl, HB3.out⟩
        · exfalso
          obtain ⟨x1, hx1, x2, hx2, hne⟩ := HXY.out
          have hall := HALL.out
          rw [List.take_of_length_le (by omega)] at hall
          exact hne ((hall x1 hx1).trans (hall x2 hx2).symm)
end Go.Proofs.YtohfofecbdfkgaaGreatDoor
