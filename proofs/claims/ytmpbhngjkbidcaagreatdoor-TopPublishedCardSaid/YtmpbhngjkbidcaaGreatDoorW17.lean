/-
  The walk of the search's coincidences: an iterator over all coincidences, in their order.
-/
import Derived.Test.YtmpbhngjkbidcaaGreatDoorW16
import Derived.Test.YtmpbhngjkbidcaaGreatDoorW03
import Derived.Test.YtmpbhngjkbidcaaGreatDoorW04
import Derived.RangeFuncBox
import Derived.RangeFuncLeaves
import Derived.OwnWalkIn
import Derived.TacticsInMore
import Derived.LoopNIn
import Derived.LoopIn
import Derived.RangeFuncNested
import Derived.Shelf.Abstract
import Derived.RangeFuncKeeps
import Derived.Deep.AppendLies
namespace Go.Proofs.YtmpbhngjkbidcaaGreatDoor
open Go.RowKit Al

theorem grown_below {A B : World} (h : Below A.heap.size A B) : A.grownBy B none := ⟨h.os, h.tape, h.output, h.size, fun k hk _ => h.block k hk⟩
/-- Are two triggers a coincidence? -/
def coOk (live window : Int) (x y : Trg) : Bool := x.2.2 == y.2.2 && decide (distI x.1 y.1 live ≤ window)
def coAt (live window : Int) (a b : List Trg) (i k : Nat) : List Trg := if coOk live window (a.getD i (0, 0, 0)) (b.getD k (0, 0, 0)) then [((i : Int), (k : Int), wrap64 ((a.getD i (0, 0, 0)).2.1 + (b.getD k (0, 0, 0)).2.1))] else []
def coRow (live window : Int) (a b : List Trg) (i n : Nat) : List Trg := (List.range n).flatMap (coAt live window a b i)
def coN (live window : Int) (a b : List Trg) (n : Nat) : List Trg := (List.range n).flatMap fun i => coRow live window a b i b.length
/-- All coincidences. -/
def coL (live window : Int) (a b : List Trg) : List Trg := coN live window a b a.length
theorem coRow_succ (live window : Int) (a b : List Trg) (i n : Nat) : coRow live window a b i (n + 1) = coRow live window a b i n ++ coAt live window a b i n := by
  unfold coRow
  rw [List.range_succ, List.flatMap_append]
  simp
theorem coN_succ (live window : Int) (a b : List Trg) (n : Nat) : coN live window a b (n + 1) = coN live window a b n ++ coRow live window a b n b.length := by
  unfold coN
  rw [List.range_succ, List.flatMap_append]
  simp
theorem coAt_len (live window : Int) (a b : List Trg) (i k : Nat) : (coAt live window a b i k).length ≤ 1 := by unfold coAt; split <;> simp
theorem coRow_len (live window : Int) (a b : List Trg) (i n : Nat) : (coRow live window a b i n).length ≤ n := by
  induction n with
  | zero => simp [coRow]
  | succ n ih => rw [coRow_succ, List.length_append]; have := coAt_len live window a b i n; omega
theorem coN_len (live window : Int) (a b : List Trg) (n : Nat) : (coN live window a b n).length ≤ n * b.length := by
  induction n with
  | zero => simp [coN]
  | succ n ih => rw [coN_succ, List.length_append, Nat.succ_mul]; have := coRow_len live window a b n b.length; omega
theorem coN_pre (live window : Int) (a b : List Trg) {i n : Nat} (h : i ≤ n) : coN live window a b i <+: coN live window a b n := by
  obtain ⟨d, rfl⟩ : ∃ d, n = i + d := ⟨n - i, by omega⟩
  induction d with
  | zero => exact List.prefix_refl _
  | succ d ih => rw [show i + (d + 1) = (i + d) + 1 by omega, coN_succ]; exact (ih (by omega)).trans (List.prefix_append _ _)
theorem coRow_pre (live window : Int) (a b : List Trg) (i : Nat) {k n : Nat} (h : k ≤ n) : coRow live window a b i k <+: coRow live window a b i n := by
  obtain ⟨d, rfl⟩ : ∃ d, n = k + d := ⟨n - k, by omega⟩
  induction d with
  | zero => exact List.prefix_refl _
  | succ d ih => rw [show k + (d + 1) = (k + d) + 1 by omega, coRow_succ]; exact (ih (by omega)).trans (List.prefix_append _ _)
theorem co_pre (live window : Int) (a b : List Trg) {i k : Nat} (hi : i < a.length) (hk : k ≤ b.length) : coN live window a b i ++ coRow live window a b i k <+: coL live window a b := by
  refine List.IsPrefix.trans ?_ (coN_pre live window a b (show i + 1 ≤ a.length by omega))
  rw [coN_succ]
  exact (List.prefix_append_right_inj _).2 (coRow_pre live window a b i hk)
theorem coAt_yes {live window : Int} {a b : List Trg} {i k : Nat} (hi : i < a.length) (hk : k < b.length) (h : coOk live window a[i] b[k] = true) : coAt live window a b i k = [((i : Int), (k : Int), wrap64 (a[i].2.1 + b[k].2.1))] := by
  unfold coAt
  rw [show a.getD i (0, 0, 0) = a[i] by simp [hi], show b.getD k (0, 0, 0) = b[k] by simp [hk], h]
  rfl
theorem coAt_no {live window : Int} {a b : List Trg} {i k : Nat} (hi : i < a.length) (hk : k < b.length) (h : coOk live window a[i] b[k] = false) : coAt live window a b i k = [] := by
  unfold coAt
  rw [show a.getD i (0, 0, 0) = a[i] by simp [hi], show b.getD k (0, 0, 0) = b[k] by simp [hk], h]
  rfl
/-- A coincidence's indexes lie in the lists. -/
theorem coL_mem {live window : Int} {a b : List Trg} {p : Trg} (h : p ∈ coL live window a b) : 0 ≤ p.1 ∧ p.1 < a.length ∧ 0 ≤ p.2.1 ∧ p.2.1 < b.length := by
  unfold coL coN at h
  obtain ⟨i, hi, h⟩ := List.mem_flatMap.1 h
  unfold coRow at h
  obtain ⟨k, hk, h⟩ := List.mem_flatMap.1 h
  have hi := List.mem_range.1 hi
  have hk := List.mem_range.1 hk
  unfold coAt at h
  split at h
  · simp only [List.mem_singleton] at h
    subst h
    exact ⟨by simp, by simpa using hi, by simp, by simpa using hk⟩
  · simp at h
/-- A step that leaves the blocks below n as they were, but for one, and all boxes of triggers. -/
structure KeepE (e n : Nat) (A B : World) : Prop where
  size : A.heap.size ≤ B.heap.size
  blk : ∀ k, k < n → k ≠ e → B.heap[k]? = A.heap[k]?
  trg : ∀ (k : Nat) (c : Array Value) (f : Nat × Nat), A.heap[k]? = some (.cells c 47 f) → B.heap[k]? = A.heap[k]?
theorem KeepE.refl (e n : Nat) (A : World) : KeepE e n A A := ⟨Nat.le_refl _, fun _ _ _ => rfl, fun _ _ _ _ => rfl⟩
theorem KeepE.trans {e n : Nat} {A B C : World} (h : KeepE e n A B) (k : KeepE e n B C) : KeepE e n A C :=
  ⟨Nat.le_trans h.size k.size, fun i hi he => (k.blk i hi he).trans (h.blk i hi he), fun i c f hc => (k.trg i c f ((h.trg i c f hc).trans hc)).trans (h.trg i c f hc)⟩
theorem KeepE.of_below {e n m : Nat} {A B : World} (h : Below m A B) (hn : n ≤ m) (hm : A.heap.size ≤ m) : KeepE e n A B := ⟨h.size, fun k hk _ => h.block k (by omega), fun k c f hc => h.block k (Nat.lt_of_lt_of_le (Array.getElem?_eq_some_iff.1 hc).1 hm)⟩
theorem KeepE.cell {e n : Nat} {A B : World} (h : KeepE e n A B) {b o : Nat} (hb : b < n) (he : b ≠ e) : B.cell? ⟨b, o, none⟩ = A.cell? ⟨b, o, none⟩ := by
  unfold World.cell?
  simp only [h.blk b hb he]
theorem KeepE.put {e n : Nat} (A : World) (l : Nat) (o o' : Obj) (h : n ≤ l) (ho : A.heap[l]? = some o) (hc : o.isCells = false) : KeepE e n A (A.putObj l o') :=
  ⟨by simp, fun k hk _ => World.putObj_heap_other (by omega), fun k c f hk => World.putObj_heap_other (fun e' => by subst e'; rw [hk] at ho; cases ho; cases hc)⟩
theorem KeepE.set {e n : Nat} {A : World} {t : TypeId} {v : Value} (h : Boxed A e t v) (ht : t ≠ 47) (u : Value) : KeepE e n A (A.setCell ⟨e, 0, none⟩ u) :=
  ⟨by simp, fun k _ hk => Below.heap_setCell _ _ _ k (fun e' => hk e'), fun k c f hk => Below.heap_setCell _ _ _ k (fun e' => by subst e'; rw [show A.heap[_]? = _ from h] at hk; cases hk; exact ht rfl)⟩
theorem KeepE.drewN {e n : Nat} {A B : World} (h : KeepE e n A B) (k : Nat) : KeepE e n A (B.drewN k) := by
  refine h.trans ?_
  exact KeepE.of_below (m := max n B.heap.size) (below_drewN (Below.refl _ _) k) (Nat.le_max_left _ _) (Nat.le_max_right _ _)
/-- The captured variables of the iterator. -/
structure CoB (W : World) (x m n : Nat) (live window : Int) (A B : Option Addr) (ca cb : Nat) (a b : List Trg) : Prop where
  k0 : W.cell? ⟨x, 0, none⟩ = some (.slice A a.length ca)
  k1 : W.cell? ⟨x + 1, 0, none⟩ = some (.slice B b.length cb)
  k2 : W.cell? ⟨x + 2, 0, none⟩ = some (.int .i64 live)
  k3 : W.cell? ⟨x + 3, 0, none⟩ = some (.int .i64 window)
  s1 : Sl W m 3 A a.length ca (trCells a)
  s2 : Sl W m 3 B b.length cb (trCells b)
  lt : n ≤ W.heap.size
theorem CoB.keep {W W' : World} {x m n e : Nat} {live window : Int} {A B : Option Addr} {ca cb : Nat} {a b : List Trg} (h : CoB W x m n live window A B ca cb a b) (k : KeepE e n W W') (hx : x + 4 ≤ n) (he : e < x) (hm : m ≤ e) : CoB W' x m n live window A B ca cb a b :=
  ⟨(k.cell (by omega) (by omega)).trans h.k0, (k.cell (by omega) (by omega)).trans h.k1, (k.cell (by omega) (by omega)).trans h.k2, (k.cell (by omega) (by omega)).trans h.k3,
    h.s1.keep fun b o hb => k.cell (by omega) (by omega), h.s2.keep fun b o hb => k.cell (by omega) (by omega), Nat.le_trans h.lt k.size⟩
set_option maxRecDepth 100000 in
set_option maxHeartbeats 4000000 in
theorem co1_in (n : Nat) (hn : 1 ≤ n) (l e x m nn : Nat) (he : e < x) (hm : m ≤ e) (hx : x + 4 ≤ nn) (live window : Int) (A B : Option Addr) (ca cb : Nat) (a b : List Trg) (J Jx : List Trg → World → Prop) (hJ : ∀ s A B, J s A → A.grownBy B none → J s B)
    (hY : ∀ pre x W, J pre W → pre.length < a.length * b.length → YieldAt Fence.wide (n - 1) Tryz.prog l #[.agg #[.int .i64 x.1, .int .i64 x.2.1, .int .i64 x.2.2]] W fun e' W' =>
      (e' = .returned (.bool true) ∧ J (pre ++ [x]) W' ∧ KeepE e nn W W') ∨ (e' = .returned (.bool false) ∧ Jx (pre ++ [x]) W'))
    (W : World) (hC : CoB W x m nn live window A B ca cb a b) (h0 : J [] W) :
    CallsIn Fence.wide n Tryz.prog 68 #[.func (.yield l) #[] #[], .pointer (some ⟨x, 0, none⟩), .pointer (some ⟨x + 1, 0, none⟩), .pointer (some ⟨x + 2, 0, none⟩), .pointer (some ⟨x + 3, 0, none⟩)] W fun e W' => (∃ v, e = .returned v) ∧
      ((∃ ys, ys = coL live window a b ∧ J ys W') ∨ (∃ pre, pre <+: coL live window a b ∧ Jx pre W')) := by
  have HJ0 := Lib.hid h0
  have HC := Lib.hid hC
  have k0 := hC.k0
  have hla : a.length ≤ maxLen := Nat.le_trans hC.s1.cap hC.s1.max
  have hlb : b.length ≤ maxLen := Nat.le_trans hC.s2.cap hC.s2.max
  unfold maxLen at hla hlb
  clear h0 hC
  refine callsIn_of_wp Tryz.func68 rfl trivial ?_ rfl
  simp only [Tryz.ntmps68, List.size_toArray, List.length_cons, List.length_nil, Nat.reduceAdd, Nat.reduceSub, Array.replicate_succ, Array.replicate_zero, List.push_toArray, List.append_toArray, List.nil_append, List.cons_append]
  gi_wp2
  clear k0
  gi_loopw [12] (fun i wr => ∃ k : Nat, k ≤ a.length ∧ i = .int .i64 k ∧ J (coN live window a b k) wr ∧ Hid (KeepE e nn W wr)) (fun i _ => a.length - (Go.RowKit.intOf i).toNat)
  case atStart => exact ⟨0, Nat.zero_le _, rfl, HJ0.out, KeepE.refl _ _ _⟩
  case round =>
    obtain ⟨i, hi, rfl, hJs, hW⟩ := hrel
    by_cases hlt : i < a.length
    · have hC2 := HC.out.keep hW.out hx he hm
      obtain ⟨tb, tq, hA, htb, c0, c1, c2⟩ := hC2.s1.tr_at hlt
      subst hA
      have hnn := hC2.lt
      have g1 := hC2.k1
      have hlt' : (i : Int) < (a.length : Int) := by omega
      have htb2 : tb < wr.heap.size := by omega
      obtain ⟨X, hX⟩ : ∃ X, a[i] = X := ⟨_, rfl⟩
      rw [hX] at c0 c1 c2
      have HX := Lib.hid hX
      obtain ⟨x1, x2, x3⟩ := X
      simp only at c0 c1 c2
      clear hX
      have hx1 : x + 1 < wr.heap.size := by omega
      gi_wp2
      have HXB : Hid ((wr.alloc (.cells #[.int .i64 x1, .int .i64 x2, .int .i64 x3] 47)).heap[wr.heap.size]? = some (.cells #[.int .i64 x1, .int .i64 x2, .int .i64 x3] 47 (0, 0))) := World.alloc_heap_new wr _
      have HJ1 : Hid (J (coN live window a b i) (wr.alloc (.cells #[.int .i64 x1, .int .i64 x2, .int .i64 x3] 47))) := hJ _ _ _ hJs (World.grownBy_alloc wr _ none)
      have HW1 : Hid (KeepE e nn W (wr.alloc (.cells #[.int .i64 x1, .int .i64 x2, .int .i64 x3] 47))) := hW.out.trans (KeepE.of_below (m := wr.heap.size) ((Below.refl _ _).alloc (Nat.le_refl _) _) hnn (Nat.le_refl _))
      have hs1 : (wr.alloc (.cells #[.int .i64 x1, .int .i64 x2, .int .i64 x3] 47)).heap.size = wr.heap.size + 1 := by simp
      obtain ⟨wo, hwo⟩ : ∃ wo, wo = wr := ⟨_, rfl⟩
      rw [← hwo] at HXB HJ1 HW1 hs1 ⊢
      obtain ⟨wb, hwb⟩ : ∃ wb, wo.alloc (.cells #[.int .i64 x1, .int .i64 x2, .int .i64 x3] 47) = wb := ⟨_, rfl⟩
      rw [hwb] at HXB HJ1 HW1 hs1 ⊢
      have hwoz : wo.heap.size = wr.heap.size := by rw [hwo]
      have hnn' : nn ≤ wo.heap.size := by omega
      clear c0 c1 c2 hwo hwb g1 htb2 hx1 hnn hwoz hC2 hJs hW
      gi_loopw [19] (fun j wr => ∃ k : Nat, k ≤ b.length ∧ j = .int .i64 k ∧ J (coN live window a b i ++ coRow live window a b i k) wr ∧ Hid (KeepE e nn W wr) ∧ wr.heap[wo.heap.size]? = some (.cells #[.int .i64 x1, .int .i64 x2, .int .i64 x3] 47 (0, 0))) (fun j _ => b.length - (Go.RowKit.intOf j).toNat)
      case atStart => exact ⟨0, Nat.zero_le _, rfl, (by rw [show coRow live window a b i 0 = [] from rfl, List.append_nil]; exact HJ1.out), HW1, HXB.out⟩
      case round =>
        obtain ⟨k, hk, rfl, hJk, HK, hXB⟩ := hrel
        have HJK := Lib.hid hJk
        clear hJk
        by_cases hkl : k < b.length
        · have hC2 := HC.out.keep HK.out hx he hm
          obtain ⟨ub, uq, hA, hub, d0, d1, d2⟩ := hC2.s2.tr_at hkl
          subst hA
          have hnn := hC2.lt
          have hkl' : (k : Int) < (b.length : Int) := by omega
          have hxl : wo.heap.size < wr.heap.size := (Array.getElem?_eq_some_iff.1 hXB).1
          have hub2 : ub < wr.heap.size := by omega
          have g2 := hC2.k2
          have g3 := hC2.k3
          have hx2 : x + 2 < wr.heap.size := by omega
          have hx3 : x + 3 < wr.heap.size := by omega
          have a0 : wr.cell? ⟨wo.heap.size, 0, none⟩ = some (.int .i64 x1) := by simp [World.cell?, hXB]
          have a1 : wr.cell? ⟨wo.heap.size, 1, none⟩ = some (.int .i64 x2) := by simp [World.cell?, hXB]
          have a2 : wr.cell? ⟨wo.heap.size, 2, none⟩ = some (.int .i64 x3) := by simp [World.cell?, hXB]
          obtain ⟨Y, hY1⟩ : ∃ Y, b[k] = Y := ⟨_, rfl⟩
          rw [hY1] at d0 d1 d2
          have HYB := Lib.hid hY1
          obtain ⟨y1, y2, y3⟩ := Y
          simp only at d0 d1 d2
          have HRS := Lib.hid (coRow_succ live window a b i k)
          have HLT : Hid ((coN live window a b i ++ coRow live window a b i k).length < a.length * b.length) := by
            show _ < _
            have h1 := coN_len live window a b i
            have h2 := coRow_len live window a b i k
            have h3 : (i + 1) * b.length ≤ a.length * b.length := Nat.mul_le_mul_right _ hlt
            rw [Nat.succ_mul] at h3
            rw [List.length_append]
            omega
          obtain ⟨wn, hwn⟩ : ∃ wn : Nat → World, wn = fun q => (wr.alloc (.cells #[.int .i64 y1, .int .i64 y2, .int .i64 y3] 47)).drewN q := ⟨_, rfl⟩
          have HB3 : Hid (∀ q, Below wr.heap.size wr (wn q)) := fun q => by rw [hwn]; exact (by repeat (first | exact Below.refl _ _ | assumption | refine below_drewN ?_ _ | refine Below.drew ?_ | refine Below.setCell ?_ (by first | omega | (simp; done) | (simp; omega)) _ | refine Below.alloc ?_ (by first | omega | (simp; done) | (simp; omega)) _))
          clear hY1 hC2
          by_cases hne : x3 = y3
          · have hd1 : (x3 != y3) = false := by simpa using hne
            have hd2 : (x3 == y3) = true := by simpa using hne
            clear hne
            by_cases hdi : distI x1 y1 live ≤ window
            · have hd3 : decide (window < distI x1 y1 live) = false := decide_eq_false (by omega)
              have HYS : Hid (coRow live window a b i (k + 1) = coRow live window a b i k ++ [((i : Int), (k : Int), wrap64 (x2 + y2))]) := by
                show _ = _
                rw [HRS.out, coAt_yes hlt hkl (by rw [HX.out, HYB.out]; unfold coOk; rw [hd2, decide_eq_true hdi]; rfl), HX.out, HYB.out]
              clear hdi
              gi_wp2_with fail
              refine wpIn_wide.2 ?_
              refine wp_region_bw2 (by kernel_rfl) (by kernel_rfl) (fun hbwc => ?_)
              repeat (go_big_quiet_step ((go_at_call 69; exact bwSame (distance_ _ _ _ _))))
              refine wpQuiet_nil ?_
              clear hbwc
              intro w3 hb
              have HB : Hid (Below wr.heap.size wr w3) := (show Below wr.heap.size wr _ from (by repeat (first | exact Below.refl _ _ | assumption | refine below_drewN ?_ _ | refine Below.drew ?_ | refine Below.setCell ?_ (by first | omega | (simp; done) | (simp; omega)) _ | refine Below.alloc ?_ (by first | omega | (simp; done) | (simp; omega)) _))).trans (hb.mono (by simp))
              have b0 : w3.cell? ⟨wr.heap.size, 0, none⟩ = some (.int .i64 y1) := (hb.cell (p := ⟨wr.heap.size, 0, none⟩) (show wr.heap.size < _ by simp)).trans (by simp [go_sem])
              have b1 : w3.cell? ⟨wr.heap.size, 1, none⟩ = some (.int .i64 y2) := (hb.cell (p := ⟨wr.heap.size, 1, none⟩) (show wr.heap.size < _ by simp)).trans (by simp [go_sem])
              have b2 : w3.cell? ⟨wr.heap.size, 2, none⟩ = some (.int .i64 y3) := (hb.cell (p := ⟨wr.heap.size, 2, none⟩) (show wr.heap.size < _ by simp)).trans (by simp [go_sem])
              have e0 := (HB.out.cell (p := ⟨wo.heap.size, 0, none⟩) hxl).trans a0
              have e1 := (HB.out.cell (p := ⟨wo.heap.size, 1, none⟩) hxl).trans a1
              have e2 := (HB.out.cell (p := ⟨wo.heap.size, 2, none⟩) hxl).trans a2
              have HK3 : Hid (KeepE e nn W w3) := HK.out.trans (KeepE.of_below HB.out hnn (Nat.le_refl _))
              have HX3 : Hid (w3.heap[wo.heap.size]? = some (.cells #[.int .i64 x1, .int .i64 x2, .int .i64 x3] 47 (0, 0))) := (HB.out.block _ hxl).trans hXB
              have hap : (coN live window a b i ++ coRow live window a b i k) ++ [((i : Int), (k : Int), wrap64 (x2 + y2))] = coN live window a b i ++ coRow live window a b i (k + 1) := by rw [HYS.out, List.append_assoc]
              obtain ⟨fn, tmps, assign, body, hy, hR⟩ := hY (coN live window a b i ++ coRow live window a b i k) ((i : Int), (k : Int), wrap64 (x2 + y2)) w3 (hJ _ _ _ HJK.out (grown_below HB.out)) HLT.out
              rw [hap] at hR
              clear hap hb d0 d1 d2 a0 a1 a2 g2 g3 hXB
              gi_wp2
              refine hR.mono ?_
              rintro e' W3 (⟨rfl, hJ3, hk3⟩ | ⟨rfl, hJx3⟩)
              · have HJ4 := Lib.hid hJ3
                have HK4 := Lib.hid hk3
                clear hR hy hJ3 hk3
                gi_wp2
                go_roundw
                case rel => exact ⟨k + 1, by omega, by go_num, HJ4.out, HK3.out.trans HK4.out, (HK4.out.trg _ _ _ HX3.out).trans HX3.out⟩
                case measure => simp [Go.RowKit.intOf]; omega
              · clear hR hy
                gi_wp2
                refine bodyPost_ret (results_none rfl _ _ _) rfl ?_
                exact ⟨⟨_, rfl⟩, .inr ⟨_, co_pre live window a b hlt (by omega), hJx3⟩⟩
            · have hd3 : decide (window < distI x1 y1 live) = true := decide_eq_true (by omega)
              have HJ3 : Hid (∀ q, Below wr.heap.size wr q → J (coN live window a b i ++ coRow live window a b i (k + 1)) q) := fun q hq => by
                rw [HRS.out, coAt_no hlt hkl (by rw [HX.out, HYB.out]; unfold coOk; rw [hd2, decide_eq_false hdi]; rfl), List.append_nil]
                exact hJ _ _ _ HJK.out (grown_below hq)
              clear hdi
              gi_wp2_with fail
              refine wpIn_wide.2 ?_
              refine wp_region_bw2 (by kernel_rfl) (by kernel_rfl) (fun hbwc => ?_)
              repeat (go_big_quiet_step ((go_at_call 69; exact bwSame (distance_ _ _ _ _))))
              refine wpQuiet_nil ?_
              clear hbwc
              intro w3 hb
              have HB : Hid (Below wr.heap.size wr w3) := (show Below wr.heap.size wr _ from (by repeat (first | exact Below.refl _ _ | assumption | refine below_drewN ?_ _ | refine Below.drew ?_ | refine Below.setCell ?_ (by first | omega | (simp; done) | (simp; omega)) _ | refine Below.alloc ?_ (by first | omega | (simp; done) | (simp; omega)) _))).trans (hb.mono (by simp))
              clear hb
              gi_wp2_with fail
              go_roundw
              case rel => exact ⟨k + 1, by omega, by go_num, HJ3.out w3 HB.out, HK.out.trans (KeepE.of_below HB.out hnn (Nat.le_refl _)), (HB.out.block _ hxl).trans hXB⟩
              case measure => simp [Go.RowKit.intOf]; omega
          · have hd1 : (x3 != y3) = true := by simpa using hne
            have hd2 : (x3 == y3) = false := by simpa using hne
            have HJ3 : Hid (∀ q, Below wr.heap.size wr q → J (coN live window a b i ++ coRow live window a b i (k + 1)) q) := fun q hq => by
              rw [HRS.out, coAt_no hlt hkl (by rw [HX.out, HYB.out]; unfold coOk; rw [hd2]; rfl), List.append_nil]
              exact hJ _ _ _ HJK.out (grown_below hq)
            clear hne
            gi_wp2_with fail
            refine wpIn_wide.2 ?_
            refine wp_region_bw2 (by kernel_rfl) (by kernel_rfl) (fun hbwc => ?_)
            repeat (go_big_quiet_step ((go_at_call 69; exact bwSame (distance_ _ _ _ _))))
            refine wpQuiet_nil ?_
            clear hbwc
            intro w3 hb
            have HB : Hid (Below wr.heap.size wr w3) := (show Below wr.heap.size wr _ from (by repeat (first | exact Below.refl _ _ | assumption | refine below_drewN ?_ _ | refine Below.drew ?_ | refine Below.setCell ?_ (by first | omega | (simp; done) | (simp; omega)) _ | refine Below.alloc ?_ (by first | omega | (simp; done) | (simp; omega)) _))).trans (hb.mono (by simp))
            clear hb
            gi_wp2_with fail
            go_roundw
            case rel => exact ⟨k + 1, by omega, by go_num, HJ3.out w3 HB.out, HK.out.trans (KeepE.of_below HB.out hnn (Nat.le_refl _)), (HB.out.block _ hxl).trans hXB⟩
            case measure => simp [Go.RowKit.intOf]; omega
        · obtain rfl : k = b.length := by omega
          have HJ5 : Hid (J (coN live window a b (i + 1)) wr) := by show J _ _; rw [coN_succ]; exact HJK.out
          gi_wp2_with fail
          go_roundw
          case rel => exact ⟨i + 1, by omega, by go_num, HJ5.out, HK⟩
          case measure => simp [Go.RowKit.intOf]; omega
    · obtain rfl : i = a.length := by omega
      gi_wp2
      go_end0
      exact ⟨⟨_, rfl⟩, .inl ⟨_, rfl, hJs⟩⟩
end Go.Proofs.YtmpbhngjkbidcaaGreatDoor

/-
  The walks of the search's coincidences and loudest.
-/
namespace Go.Proofs.YtmpbhngjkbidcaaGreatDoor
open Go.RowKit Al
attribute [local go_sem] Oper.semAt_some

/-- Four boxes. -/
@[reducible] def co4 (W : World) (A B : Option Addr) (na ca nb cb : Nat) (live window : Int) : World :=
  (((W.alloc (.cells #[.slice A na ca] 22)).alloc (.cells #[.slice B nb cb] 22)).alloc (.cells #[.int .i64 live] 3)).alloc (.cells #[.int .i64 window] 3)
theorem coincidences_ (A B : Option Addr) (na ca nb cb : Nat) (live window : Int) (w : World) :
    Calls Tryz.prog 30 #[.slice A na ca, .slice B nb cb, .int .i64 live, .int .i64 window] w fun e w' =>
      e = .returned (.func (.func 68) #[] #[.pointer (some ⟨w.heap.size, 0, none⟩), .pointer (some ⟨w.heap.size + 1, 0, none⟩), .pointer (some ⟨w.heap.size + 1 + 1, 0, none⟩), .pointer (some ⟨w.heap.size + 1 + 1 + 1, 0, none⟩)]) ∧ w' = co4 w A B na ca nb cb live window := by
  go_enter Tryz.func30, Tryz.ntmps30
  go_wp2_with fail
  go_ret
  exact ⟨rfl, rfl⟩
theorem co4_b (W : World) (m : Nat) (hm : m ≤ W.heap.size) (A B : Option Addr) (ca cb : Nat) (a b : List Trg) (live window : Int) (ha : Sl W m 3 A a.length ca (trCells a)) (hb : Sl W m 3 B b.length cb (trCells b)) :
    CoB (co4 W A B a.length ca b.length cb live window) W.heap.size m (W.heap.size + 4) live window A B ca cb a b := by
  have hbl : Below m W (co4 W A B a.length ca b.length cb live window) := by
    refine Below.alloc ?_ (by simp; omega) _
    refine Below.alloc ?_ (by simp; omega) _
    refine Below.alloc ?_ (by simp; omega) _
    exact (Below.refl _ _).alloc hm _
  exact ⟨by simp [go_sem], by simp [go_sem], by simp [go_sem], by simp [go_sem], ha.below hbl, hb.below hbl, by simp⟩
theorem co_stops (n : Nat) (hn : 1 ≤ n) (e x m nn : Nat) (he : e < x) (hm : m ≤ e) (hx : x + 4 ≤ nn) (live window : Int) (A B : Option Addr) (ca cb : Nat) (a b : List Trg) (w : World) (hC : CoB w x m nn live window A B ca cb a b) :
    SeqStopsK Fence.wide n Tryz.prog 68 #[.pointer (some ⟨x, 0, none⟩), .pointer (some ⟨x + 1, 0, none⟩), .pointer (some ⟨x + 1 + 1, 0, none⟩), .pointer (some ⟨x + 1 + 1 + 1, 0, none⟩)] (fun p : Trg => #[.agg #[.int .i64 p.1, .int .i64 p.2.1, .int .i64 p.2.2]]) (KeepE e nn) (fun ys => ys = coL live window a b) (fun pre => pre <+: coL live window a b) (a.length * b.length) w := fun l J Jx W hW hJ _ hY h0 =>
  co1_in n hn l e x m nn he hm hx live window A B ca cb a b J Jx (fun s A B h hg => hJ s A B none h hg (fun r e => by cases e)) hY W (hC.keep (KeepE.of_below hW hC.lt (Nat.le_refl _)) hx he hm) h0
theorem cells_own' (B : Nat) (c : Array Value) {t : TypeId} {f : Nat × Nat} : Own (fun (_ : Unit) W => W.heap[B]? = some (.cells c t f)) := fun s X Y row hs hg hrow =>
  (hg.block B (Array.getElem?_eq_some_iff.1 hs).1 (fun e' => by obtain ⟨o, ho, hc⟩ := hrow B e'.symm; rw [hs] at ho; cases ho; cases hc)).trans hs
/-- The loudest of coincidences. -/
def loudF (l : List Trg) : Int := l.foldl (fun m p => max m p.2.2) (-1)
theorem loudF_snoc (l : List Trg) (p : Trg) : loudF (l ++ [p]) = max (loudF l) p.2.2 := by simp [loudF]
set_option maxRecDepth 100000 in
set_option maxHeartbeats 4000000 in
theorem loudest_ (a b : List Trg) (A B : Option Addr) (ca cb : Nat) (live window : Int) (w : World) (ha : Sl w w.heap.size 3 A a.length ca (trCells a)) (hb : Sl w w.heap.size 3 B b.length cb (trCells b)) :
    Calls Tryz.prog 66 #[.slice A a.length ca, .slice B b.length cb, .int .i64 live, .int .i64 window] w fun e w' => e = .returned (.int .i64 (loudF (coL live window a b))) ∧ Below w.heap.size w w' := by
  refine (callsIn_wide (n := 6)).1 ?_
  refine callsIn_of_wp_marks Tryz.func66 rfl trivial ?_ rfl
  simp only [Tryz.ntmps66, List.size_toArray, List.length_cons, List.length_nil, Nat.reduceAdd, Nat.reduceSub, Array.replicate_succ, Array.replicate_zero, List.push_toArray, List.append_toArray, List.nil_append, List.cons_append]
  gi_wp2_with fail
  refine ⟨trivial, (callsIn_wide.2 (coincidences_ A B a.length ca b.length cb live window _)).mono ?_⟩
  rintro e w1 ⟨rfl, rfl⟩
  have hC := co4_b (w.alloc (.cells #[.int .i64 (-1)] 3)) w.heap.size (by simp) A B ca cb a b live window (ha.alloc (Nat.le_refl _) _) (hb.alloc (Nat.le_refl _) _)
  rw [World.size_alloc] at hC
  have bO := ((((Boxed.new w 3 (.int .i64 (-1))).alloc (.cells #[.slice A a.length ca] 22)).alloc (.cells #[.slice B b.length cb] 22)).alloc (.cells #[.int .i64 live] 3)).alloc (.cells #[.int .i64 window] 3)
  have bZ := Boxed.new ((((w.alloc (.cells #[.int .i64 (-1)] 3)).alloc (.cells #[.slice A a.length ca] 22)).alloc (.cells #[.slice B b.length cb] 22)).alloc (.cells #[.int .i64 live] 3)) 3 (.int .i64 window)
  simp only [World.size_alloc] at bZ
  have hB0 : Below w.heap.size w (co4 (w.alloc (.cells #[.int .i64 (-1)] 3)) A B a.length ca b.length cb live window) := (by repeat (first | exact Below.refl _ _ | assumption | refine below_drewN ?_ _ | refine Below.drew ?_ | refine Below.setCell ?_ (by first | omega | (simp; done) | (simp; omega)) _ | refine Below.alloc ?_ (by first | omega | (simp; done) | (simp; omega)) _))
  have hsz : (co4 (w.alloc (.cells #[.int .i64 (-1)] 3)) A B a.length ca b.length cb live window).heap.size = w.heap.size + 5 := by simp
  gi_wp2_with fail
  obtain ⟨W0, hW0⟩ : ∃ W0, co4 (w.alloc (.cells #[.int .i64 (-1)] 3)) A B a.length ca b.length cb live window = W0 := ⟨_, rfl⟩
  rw [show ((((w.alloc (.cells #[.int .i64 (-1)] 3)).alloc (.cells #[.slice A a.length ca] 22)).alloc (.cells #[.slice B b.length cb] 22)).alloc (.cells #[.int .i64 live] 3)).alloc (.cells #[.int .i64 window] 3) = W0 from hW0] at bO bZ
  rw [hW0] at hC hB0 hsz ⊢
  clear hW0
  refine wpIn_rangeFunc_ownH rfl (by omega) (gf := 68) (lb := #[.pointer (some ⟨w.heap.size + 1, 0, none⟩), .pointer (some ⟨w.heap.size + 1 + 1, 0, none⟩), .pointer (some ⟨w.heap.size + 1 + 1 + 1, 0, none⟩), .pointer (some ⟨w.heap.size + 1 + 1 + 1 + 1, 0, none⟩)]) rfl trivial (enters_of Tryz.func68 (by kernel_rfl) rfl)
    (co_stops (6 - 1) (by omega) w.heap.size (w.heap.size + 1) w.heap.size (w.heap.size + 1 + 4) (by omega) (Nat.le_refl _) (Nat.le_refl _) live window A B ca cb a b W0 hC) KeepE.trans (fun W l o o' hl ho hc _ => KeepE.put W l o o' (by omega) ho hc) (Below.refl _ _) (fun _ => rfl)
    (fun pre W => (Boxed W w.heap.size 3 (.int .i64 (loudF pre)) ∧ Boxed W (w.heap.size + 1 + 1 + 1 + 1) 3 (.int .i64 window)) ∧ Below w.heap.size w W) (fun _ _ _ => False)
    (OwnFrom.and (OwnFrom.and (Own.from (boxed_own _ _ _) _) (Own.from (boxed_own _ _ _) _)) (ownFrom_below (Nat.le_refl _) (by omega)))
    (fun _ _ _ _ _ hs _ _ => hs)
    ⟨⟨bO, bZ⟩, hB0⟩
    (fun x a' W => ∃ Bx, w.heap.size < Bx ∧ W.heap[Bx]? = some (.cells #[.int .i64 x.1, .int .i64 x.2.1, .int .i64 x.2.2] 41 (0, 0)) ∧ a' =
      { tmps := #[.slice A a.length ca, .slice B b.length cb, .int .i64 live, .int .i64 window, undef, undef, undef, undef, .int .i64 0, .pointer (some ⟨w.heap.size, 0, none⟩), .pointer (some ⟨Bx, 0, none⟩), .slice A a.length ca, .slice B b.length cb, .int .i64 live, .int .i64 window, .func (.func 68) #[] #[.pointer (some ⟨w.heap.size + 1, 0, none⟩), .pointer (some ⟨w.heap.size + 1 + 1, 0, none⟩), .pointer (some ⟨w.heap.size + 1 + 1 + 1, 0, none⟩), .pointer (some ⟨w.heap.size + 1 + 1 + 1 + 1, 0, none⟩)], .agg #[.int .i64 x.1, .int .i64 x.2.1, .int .i64 x.2.2], undef, undef, undef, undef, undef], defers := [] })
    (fun x a' _ X Y row hs hg hr => by obtain ⟨Bx, h1, h2, h3⟩ := hs; exact ⟨Bx, h1, cells_own' Bx _ () X Y row h2 hg (fun r e => (hr r e).2), h3⟩)
    ?assign ?body ?done ?stop
  case assign =>
    rintro l pre x W K ⟨⟨bO1, bZ1⟩, hB1⟩ hK
    have hz := bZ1.lt
    have hl1 := bO1.lt
    gi_wp2
    exact hK _ _ ((KeepsOthers.alloc _ _).from _) (KeepE.of_below (m := W.heap.size) ((Below.refl _ W).alloc (Nat.le_refl _) _) (by omega) (Nat.le_refl _)) ⟨⟨bO1.alloc _, bZ1.alloc _⟩, hB1.alloc hB1.size _⟩ ⟨W.heap.size, hl1, World.alloc_heap_new W _, rfl⟩
  case body =>
    rintro l pre x a' W hl ⟨r, hr⟩ ⟨⟨bO1, bZ1⟩, hB1⟩ ⟨Bx, hBx, bX, rfl⟩ hlt
    have cO := bO1.cell
    have fO := bO1.frozen
    have HL := Lib.hid (loudF_snoc pre x)
    obtain ⟨m, hm⟩ : ∃ m, loudF pre = m := ⟨_, rfl⟩
    rw [hm] at cO bO1 HL
    have cX2 : W.cell? ⟨Bx, 2, none⟩ = some (.int .i64 x.2.2) := by simp [World.cell?, bX]
    clear hm
    gi_wp2_with fail
    exact ⟨(KeepsOthers.setCell _ _ _).from _, KeepE.set bO1 (by decide) _, ⟨(by rw [HL.out]; exact bO1.set _), bZ1.other (by omega) _⟩, hB1.trans ((Below.refl _ W).setCell (p := ⟨w.heap.size, 0, none⟩) (by simp) _)⟩
  case done =>
    rintro D ys W hD rfl ⟨⟨bO1, -⟩, hB1⟩ hK
    have cO := bO1.cell
    gi_wp2
    refine ⟨by simp, .inl ⟨_, _, rfl, run_takeDeferred hK, ?_⟩⟩
    exact ⟨_, results_tmp rfl _ _ _, rfl, hB1.trans (belowK_b (w := w) (Nat.le_refl _) W D _ _ (by omega) hK rfl rfl)⟩
  case stop =>
    rintro D c pre W _ _ h _
    exact h.elim
end Go.Proofs.YtmpbhngjkbidcaaGreatDoor

/-
  The walk of the search's statistics.
-/
namespace Go.Proofs.YtmpbhngjkbidcaaGreatDoor
open Go.RowKit Al

/-- The first statistics. -/
def statL (a b : List Trg) (live window step : Int) (q : Nat) : List Int := (List.range q).map fun k : Nat => loudF (coL live window a (slideL live ((k : Int) * step) b))
theorem statL_succ (a b : List Trg) (live window step : Int) (q : Nat) : statL a b live window step (q + 1) = statL a b live window step q ++ [loudF (coL live window a (slideL live ((q : Int) * step) b))] := by
  unfold statL
  rw [List.range_succ, List.map_append]
  rfl
theorem statL_len (a b : List Trg) (live window step : Int) (q : Nat) : (statL a b live window step q).length = q := by simp [statL]
/-- A list of ints in memory of the call's own. -/
def OwnIn (l : List Int) (w : World) (e : Ending) (w' : World) : Prop := ∃ A c, e = .returned (.slice A l.length c) ∧ w'.ownsRow w.heap.size 3 1 (.slice A l.length c) l.length (ints l) ∧ Below w.heap.size w w'
def stRel (a b : List Trg) (live window step : Int) (q : Nat) (w : World) (s d : Value) (wr : World) : Prop :=
  ∃ (k : Nat) (A : Option Addr) (c : Nat), k ≤ q ∧ d = .int .i64 ((k : Int) * step) ∧ s = .slice A k c ∧ Hid (wr.ownsRow w.heap.size 3 1 (.slice A k c) k (ints (statL a b live window step k))) ∧ Below w.heap.size w wr
theorem infoI : (Tryz.prog.info? 3).map (fun i => (i.zero, i.size, i.bytes)) = some (some (.int .i64 0), 1, 8) := by kernel_rfl
set_option maxRecDepth 100000 in
set_option maxHeartbeats 4000000 in
theorem statistics_ (a b : List Trg) (A B : Option Addr) (ca cb : Nat) (live window step : Int) (q : Nat) (w : World) (hc : ClockOk live window step a b) (hq : (q : Int) * step = live) (hq2 : q ≤ 256)
    (ha : Sl w w.heap.size 3 A a.length ca (trCells a)) (hb : Sl w w.heap.size 3 B b.length cb (trCells b)) :
    Calls Tryz.prog 28 #[.slice A a.length ca, .slice B b.length cb, .int .i64 live, .int .i64 window, .int .i64 step] w (OwnIn (statL a b live window step q) w) := by
  obtain ⟨i0, hi, hz0, hz1, hz2⟩ := info_parts infoI
  obtain ⟨⟨l1, l2⟩, -, ⟨s1, s2⟩, -, -, ha2, hb2⟩ := hc
  have HA := Lib.hid ha
  have HB := Lib.hid hb
  have HQ := Lib.hid hq
  clear ha hb hq
  go_enter Tryz.func28, Tryz.ntmps28
  go_wp2_with fail
  go_loopw [11, 12] (fun s d wr => stRel a b live window step q w s d wr) (fun _ d _ => (live - Go.RowKit.intOf d).toNat)
  case atStart => exact ⟨0, none, 0, Nat.zero_le _, by simp, rfl, World.ownsRow_nil _ _ _ _, Below.refl _ _⟩
  case round =>
    obtain ⟨k, R, c, hk, rfl, rfl, HO, hbw⟩ := hrel
    have HW := Lib.hid hbw
    have hsz := hbw.size
    clear hbw
    by_cases hlt : k < q
    · have hd1 : 0 ≤ (k : Int) * step := Int.mul_nonneg (by omega) (by omega)
      have hd2 : (k : Int) * step + step ≤ live := by
        rw [← HQ.out, show (k : Int) * step + step = ((k : Int) + 1) * step by rw [Int.add_mul, Int.one_mul]]
        exact Int.mul_le_mul_of_nonneg_right (by omega) (by omega)
      have HD : Hid (((k + 1 : Nat) : Int) * step = (k : Int) * step + step) := by show _ = _; rw [show ((k + 1 : Nat) : Int) = (k : Int) + 1 from rfl, Int.add_mul, Int.one_mul]
      have HS := Lib.hid (statL_succ a b live window step k)
      have HSL := Lib.hid (slideL_len live ((k : Int) * step) b)
      obtain ⟨d, hd⟩ : ∃ d, (k : Int) * step = d := ⟨_, rfl⟩
      rw [hd] at hd1 hd2 HD HS HSL ⊢
      clear hd
      obtain ⟨M, hM⟩ : ∃ M, slideL live d b = M := ⟨_, rfl⟩
      have HSI := slide_ b B cb live d wr ((HB.out.below HW.out).more hsz) hb2
      rw [hM] at HS HSL HSI
      have HSI2 := Lib.hid HSI
      clear HSI hM
      go_wp2_with fail
      refine HSI2.out.mono ?_
      rintro e w3 ⟨C, cc, rfl, ho3, hb3⟩
      have HO3 := Lib.hid ho3
      have HB3 := Lib.hid hb3
      have hz3 := hb3.size
      clear ho3 hb3
      have HLO := loudest_ a M A C ca cc live window w3 ((HA.out.below (HW.out.trans (HB3.out.mono hsz))).more (by omega)) (by rw [HSL.out]; exact Sl.of_own HO3.out)
      rw [HSL.out] at HLO
      have HLO2 := Lib.hid HLO
      clear HLO
      obtain ⟨v, hv⟩ : ∃ v, loudF (coL live window a M) = v := ⟨_, rfl⟩
      rw [hv] at HLO2 HS
      clear hv
      go_wp2_with (first
        | (go_at_call 66; refine HLO2.out.mono ?_; rintro e w4 ⟨rfl, hb4⟩; have HB4 : Hid (Below wr.heap.size wr w4) := HB3.out.trans (hb4.mono hz3); have hz4 := HB4.out.size; clear hb4)
        | (at_builtin; go_must (refine wpList_append_lies _ rfl _ _ 32 rfl w.heap.size 3 i0 (.int .i64 0) 1 8 Tryz.underlying32 hi hz0 hz1 hz2 rfl (by decide) (.slice R k c) k _ rfl (own_below HO.out (Nat.le_refl _) (HB4.out.alloc HB4.out.size _)) _ 1 1 [.int .i64 v] rfl rfl (World.news_of_block (heap_alloc_new w4 _)) (by simp [Value.oneCell']) (by decide) (by unfold maxLen; omega) (by omega) (by simp; omega) _ rfl ?_); intro g cap w5 hown5 hg5 hat5 hlt5))
      go_roundw
      case rel => exact ⟨k + 1, some ⟨g, 0, none⟩, cap, by omega, by rw [HD.out], rfl, (show _ from by rw [HS.out]; unfold ints; rw [List.map_append]; exact hown5), ((HW.out.trans (HB4.out.mono hsz)).alloc (by omega) _).grown hg5 (by simp; omega) (fun j e => (HO.out.lt j e).1)⟩
      case measure => simp [Go.RowKit.intOf]; omega
    · obtain rfl : k = q := by omega
      have HLV := HQ.out
      rw [HLV]
      clear HLV
      go_wp2_with fail
      go_ret
      exact ⟨R, c, (by rw [statL_len]; rfl), by rw [statL_len]; exact HO.out, HW.out⟩
end Go.Proofs.YtmpbhngjkbidcaaGreatDoor
