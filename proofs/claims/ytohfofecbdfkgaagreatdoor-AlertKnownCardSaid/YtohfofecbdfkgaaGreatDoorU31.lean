/-
  The walk of sameForks, of lists that are equal.
-/
import Derived.Test.YtohfofecbdfkgaaGreatDoorU29
import Derived.Test.YtohfofecbdfkgaaGreatDoorU20
namespace Go.Proofs.YtohfofecbdfkgaaGreatDoor
open Go.RowKit Al

theorem Sl.belowT {w w' : World} {sz n c : Nat} {A : Option Addr} {xs : List Value} (h : Sl w w.heap.size sz A n c xs) (hb : Below w.heap.size w w') : Sl w' w'.heap.size sz A n c xs := (h.below hb).more hb.size
theorem Sl.fk_at {w : World} {B n c : Nat} {A : Option Addr} {l : List FkC} (h : Sl w B 3 A n c (fkCells l)) {k : Nat} (hk : k < l.length) :
    ∃ b off, A = some ⟨b, off, none⟩ ∧ b < B ∧ w.cell? ⟨b, off + k * 3, none⟩ = some (.string l[k].f.ev) ∧ w.cell? ⟨b, off + k * 3 + 1, none⟩ = some (.int .i64 l[k].f.ver) ∧ w.cell? ⟨b, off + k * 3 + 2, none⟩ = some (.slice l[k].A l[k].f.who.length l[k].c) := by
  have hn : n = l.length := by have := h.len; unfold fkCells at this; rw [flat_size FkC.len] at this; omega
  obtain ⟨b, off, e, hb, hc⟩ := h.at_ (by omega)
  have at_ : ∀ j u, j < 3 → l[k].lst[j]? = some u → w.cell? ⟨b, off + k * 3 + j, none⟩ = some u := fun j u hj hu => by
    rw [Nat.add_assoc]
    exact hc _ _ ((flat_at FkC.len hk hj).trans hu)
  exact ⟨b, off, e, hb, at_ 0 _ (by decide) rfl, at_ 1 _ (by decide) rfl, at_ 2 _ (by decide) rfl⟩
set_option maxRecDepth 100000 in
set_option maxHeartbeats 4000000 in
theorem sameForks_ (G M : List FkC) (P : Option Addr) (pc : Nat) (Q : Option Addr) (qc : Nat) (w : World) (he : G.map (·.f) = M.map (·.f)) (hP : Sl w w.heap.size 3 P G.length pc (fkCells G)) (hQ : Sl w w.heap.size 3 Q M.length qc (fkCells M))
    (hG : ∀ x ∈ G, Sl w w.heap.size 1 x.A x.f.who.length x.c (ints x.f.who)) (hM : ∀ x ∈ M, Sl w w.heap.size 1 x.A x.f.who.length x.c (ints x.f.who)) :
    Calls Tryz.prog 27 #[.slice P G.length pc, .slice Q M.length qc] w fun e w' => e = .returned (.bool true) ∧ Below w.heap.size w w' := by
  have hl : M.length = G.length := by have := congrArg List.length he; simpa using this.symm
  have hb1 : G.length ≤ maxLen := Nat.le_trans hP.cap hP.max
  unfold maxLen at hb1
  have HP := Lib.hid hP
  have HQ := Lib.hid hQ
  have HG := Lib.hid hG
  have HM := Lib.hid hM
  have HEQ : Hid (∀ k (h1 : k < G.length) (h2 : k < M.length), G[k].f = M[k].f) := fun k h1 h2 => by
    have h3 : (G.map (·.f))[k]? = (M.map (·.f))[k]? := by rw [he]
    rw [List.getElem?_map, List.getElem?_map, List.getElem?_eq_getElem h1, List.getElem?_eq_getElem h2] at h3
    exact Option.some.inj h3
  clear hP hQ hG hM he
  rw [hl]
  have hl2 : G.length = M.length := hl.symm
  have HLL := Lib.hid hl2
  clear hl hl2
  go_enter Tryz.func27, Tryz.ntmps27
  go_wp2_with fail
  go_loopw [5] (fun i wr => SaRel G.length w i wr) (fun i _ => G.length - (Go.RowKit.intOf i).toNat)
  case atStart => exact ⟨0, Nat.zero_le _, rfl, Below.refl _ _⟩
  case round =>
    obtain ⟨k, hk, rfl, hB⟩ := hrel
    have hsz := hB.size
    have HB := Lib.hid hB
    clear hB
    by_cases hlt : k < G.length
    · have i0 : (0 : Int) ≤ (k : Int) := by omega
      have i1 : (k : Int) < (G.length : Int) := by omega
      have hltM : k < M.length := by have := HLL.out; omega
      obtain ⟨b1, o1, rfl, hb1, y0, y1, y2⟩ := (HP.out.below HB.out).fk_at hlt
      obtain ⟨b2, o2, rfl, hb2, z0, z1, z2⟩ := (HQ.out.below HB.out).fk_at hltM
      have hb3 : b1 < wr.heap.size := by omega
      have hb4 : b2 < wr.heap.size := by omega
      have HX1 := Lib.hid ((HG.out G[k] (List.getElem_mem hlt)).belowT HB.out)
      have HX2 := Lib.hid ((HM.out M[k] (List.getElem_mem hltM)).belowT HB.out)
      have e1 := HEQ.out k hlt hltM
      obtain ⟨x, hx⟩ : ∃ x, x = G[k] := ⟨_, rfl⟩
      obtain ⟨u, hu⟩ : ∃ u, u = M[k] := ⟨_, rfl⟩
      rw [← hx] at y0 y1 y2 HX1 e1
      rw [← hu] at z0 z1 z2 HX2 e1
      rw [← e1] at z0 z1 z2 HX2
      clear hx hu e1
      have q1 : (x.f.ev.toList == x.f.ev.toList) = true := by simp
      go_wp2_with fail
      refine wp_region_bw2 (by kernel_rfl) (by kernel_rfl) (fun hbwc => ?_)
      repeat (go_big_quiet_step ((go_at_call 72; exact bwCall (SameInts_is x.f.who x.f.who x.A x.c u.A u.c _ true (by simp) (Sl.belowT (Sl.belowT HX1.out (by (repeat (first | exact Below.refl _ _ | assumption | refine below_drewN ?_ _ | refine Below.drew ?_ | refine Below.setCell ?_ (by first | omega | (simp; done) | (simp; omega)) _ | refine Below.alloc ?_ (by first | omega | (simp; done) | (simp; omega)) _)))) (BW.below _)) (Sl.belowT (Sl.belowT HX2.out (by (repeat (first | exact Below.refl _ _ | assumption | refine below_drewN ?_ _ | refine Below.drew ?_ | refine Below.setCell ?_ (by first | omega | (simp; done) | (simp; omega)) _ | refine Below.alloc ?_ (by first | omega | (simp; done) | (simp; omega)) _)))) (BW.below _))))))
      refine wpQuiet_nil ?_
      clear hbwc
      intro w3 hb
      have HB3 := Lib.hid (HB.out.trans ((show Below w.heap.size wr _ from (by (repeat (first | exact Below.refl _ _ | assumption | refine below_drewN ?_ _ | refine Below.drew ?_ | refine Below.setCell ?_ (by first | omega | (simp; done) | (simp; omega)) _ | refine Below.alloc ?_ (by first | omega | (simp; done) | (simp; omega)) _)))).trans (hb.mono (by first | omega | (simp; done) | (simp; omega)))))
      clear hb
      go_wp2_with fail
      go_roundw
      case rel => exact ⟨k + 1, by omega, by go_num, HB3.out⟩
      case measure => simp [Go.RowKit.intOf]; omega
    · obtain rfl : k = G.length := by omega
      go_wp2_with fail
      go_ret
      exact ⟨rfl, HB.out⟩
end Go.Proofs.YtohfofecbdfkgaaGreatDoor
