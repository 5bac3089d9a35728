/-
  The walk of the search's Candidates.
-/
import Derived.Test.YtmpbhngjkbidcaaGreatDoorW17
import Derived.Laws.EntriesVeiled
import Derived.Test.YtmpbhngjkbidcaaGreatDoorW25
import Derived.Test.YtmpbhngjkbidcaaGreatDoorW07
namespace Go.Proofs.YtmpbhngjkbidcaaGreatDoor
open Go.RowKit Al
attribute [local go_sem] Oper.semAt_some

theorem rare_ (n o limit : Int) (b : Nat) (w : World) (hb : b < w.heap.size) (h : w.cell? ⟨b, 0, none⟩ = some (.int .i64 limit)) :
    Calls Tryz.prog 29 #[.agg #[.int .i64 n, .int .i64 o], .pointer (some ⟨b, 0, none⟩)] w fun e w' => e = .returned (.bool (decide (n ≤ limit))) ∧ Below w.heap.size w w' := by
  go_enter Tryz.func29, Tryz.ntmps29
  go_wp2_with fail
  go_ret
  exact ⟨rfl, (by repeat (first | exact Below.refl _ _ | assumption | refine below_drewN ?_ _ | refine Below.drew ?_ | refine Below.setCell ?_ (by first | omega | (simp; done) | (simp; omega)) _ | refine Below.alloc ?_ (by first | omega | (simp; done) | (simp; omega)) _))⟩
/-- A candidate: its pair; its chance. -/
structure Cnd where
  p : Trg
  n : Int
  o : Int
def cnCell (x : Cnd) : List Value := [.int .i64 x.p.1, .int .i64 x.p.2.1, .int .i64 x.p.2.2, .int .i64 x.n, .int .i64 x.o]
def cnCells (l : List Cnd) : List Value := l.flatMap cnCell
/-- The candidates of coincidences. -/
def candF (st : List Int) (limit : Int) (l : List Trg) : List Cnd := (l.filter fun p => decide ((chN st p.2.2 : Int) ≤ limit)).map fun p => ⟨p, chN st p.2.2, st.length⟩
theorem candF_snoc (st : List Int) (limit : Int) (l : List Trg) (p : Trg) : candF st limit (l ++ [p]) = candF st limit l ++ (if decide ((chN st p.2.2 : Int) ≤ limit) then [⟨p, chN st p.2.2, st.length⟩] else []) := by
  unfold candF
  rw [List.filter_append, List.map_append]
  congr 1
  cases h : decide ((chN st p.2.2 : Int) ≤ limit) <;> simp [h]
theorem cnCells_snoc (l : List Cnd) (x : Cnd) : cnCells (l ++ [x]) = cnCells l ++ cnCell x := by simp [cnCells]
theorem cn_one (x : Cnd) : ∀ u ∈ cnCell x, u.oneCell' = true := by
  intro u hu
  simp [cnCell] at hu
  rcases hu with rfl | rfl | rfl | rfl | rfl <;> rfl
theorem candF_len (st : List Int) (limit : Int) (l : List Trg) : (candF st limit l).length ≤ l.length := by unfold candF; rw [List.length_map]; exact List.length_filter_le _ _
theorem infoCn : (Tryz.prog.info? 45).map (fun i => (i.zero, i.size, i.bytes)) = some (some (.agg #[.int .i64 0, .int .i64 0, .int .i64 0, .int .i64 0, .int .i64 0]), 5, 40) := by kernel_rfl
theorem KeepE.appended {e n : Nat} {w7 w1 : World} {tmp : Obj} {v : Value} {base sz k : Nat} {xs : List Value} {te t : TypeId} {u : Value} (hrow : w7.ownsRow base te sz v k xs) (hte : te ≠ 47) (hb : n ≤ base) (hg : (w7.alloc tmp).grownBy w1 v.ownBlock) (hbx : Boxed w1 e t u) (ht : t ≠ 47) (hn : n ≤ w7.heap.size) (x : Value) : KeepE e n w7 (w1.setCell ⟨e, 0, none⟩ x) := by
  refine KeepE.trans (B := w1) ?_ (KeepE.set hbx ht x)
  have h1 : KeepE e n w7 (w7.alloc tmp) := KeepE.of_below (m := w7.heap.size) ((Below.refl _ _).alloc (Nat.le_refl _) _) hn (Nat.le_refl _)
  refine h1.trans ⟨hg.size, fun j hj _ => hg.block j (by simp; omega) (fun e' => ?_), fun j c f hc => hg.block j (Array.getElem?_eq_some_iff.1 hc).1 (fun e' => ?_)⟩
  · have := (hrow.lt j e'.symm).1
    omega
  · rcases hrow.2 with ⟨rfl, _⟩ | ⟨g, cap, cur, rfl, _, hh, _⟩
    · cases e'
    · cases e'
      have h2 := ((Below.refl w7.heap.size w7).alloc (Nat.le_refl _) tmp).block _ (Array.getElem?_eq_some_iff.1 hh).1
      rw [h2, hh] at hc
      cases hc
      exact hte rfl
/-- Candidates, or an error. -/
inductive CandOut (a b : List Trg) (live window step limit : Int) (w : World) (e : Ending) (w' : World) : Prop
  | no (k : Int) (hk : k ≠ 0) (he : e = .returned (.tuple #[.slice none 0 0, .int .i64 k])) (hb : Below w.heap.size w w')
  | ok (q : Nat) (hq : (q : Int) * step = live) (hq2 : q ≤ 256) (hl : 0 ≤ limit ∧ limit ≤ q) (hc : ClockOk live window step a b) (l : List Cnd) (hl : l = candF (statL a b live window step q) limit (coL live window a b)) (A : Option Addr) (c : Nat)
      (he : e = .returned (.tuple #[.slice A l.length c, .int .i64 0])) (ho : w'.ownsRow w.heap.size 45 5 (.slice A l.length c) l.length (cnCells l)) (hb : Below w.heap.size w w')
set_option maxRecDepth 100000 in
set_option maxHeartbeats 8000000 in
theorem candidates_ (a b : List Trg) (A B : Option Addr) (ca cb : Nat) (live window step limit : Int) (w : World) (ha : Sl w w.heap.size 3 A a.length ca (trCells a)) (hb : Sl w w.heap.size 3 B b.length cb (trCells b)) :
    Calls Tryz.prog 5 #[.slice A a.length ca, .slice B b.length cb, .int .i64 live, .int .i64 window, .int .i64 step, .int .i64 limit] w (CandOut a b live window step limit w) := by
  obtain ⟨i0, hi, hz0, hz1, hz2⟩ := info_parts infoCn
  have HA := Lib.hid ha
  have HB := Lib.hid hb
  clear ha hb
  refine (callsIn_wide (n := 6)).1 ?_
  refine callsIn_of_wp_marks Tryz.func5 rfl trivial ?_ rfl
  simp only [Tryz.ntmps5, List.size_toArray, List.length_cons, List.length_nil, Nat.reduceAdd, Nat.reduceSub, Array.replicate_succ, Array.replicate_zero, List.push_toArray, List.append_toArray, List.nil_append, List.cons_append]
  gi_wp2_with fail
  refine ⟨trivial, (callsIn_wide.2 (clock_ live window step a b A ca B cb (w.heap.size + 1) _ ((HA.out.below (by repeat (first | exact Below.refl _ _ | assumption | refine below_drewN ?_ _ | refine Below.drew ?_ | refine Below.setCell ?_ (by first | omega | (simp; done) | (simp; omega)) _ | refine Below.alloc ?_ (by first | omega | (simp; done) | (simp; omega)) _))).more (by first | omega | (simp; done) | (simp; omega))) ((HB.out.below (by repeat (first | exact Below.refl _ _ | assumption | refine below_drewN ?_ _ | refine Below.drew ?_ | refine Below.setCell ?_ (by first | omega | (simp; done) | (simp; omega)) _ | refine Below.alloc ?_ (by first | omega | (simp; done) | (simp; omega)) _))).more (by first | omega | (simp; done) | (simp; omega))) (by simp [go_sem]) (by simp [go_sem]) (by simp))).mono ?_⟩
  rintro e w1 ⟨k, rfl, hok, hb1⟩
  have HB1 : Hid (Below (w.heap.size + 1) (w.alloc (.cells #[.int .i64 limit] 3)) w1) := (show Below (w.heap.size + 1) _ _ from (by repeat (first | exact Below.refl _ _ | assumption | refine below_drewN ?_ _ | refine Below.drew ?_ | refine Below.setCell ?_ (by first | omega | (simp; done) | (simp; omega)) _ | refine Below.alloc ?_ (by first | omega | (simp; done) | (simp; omega)) _))).trans (hb1.mono (by first | omega | (simp; done) | (simp; omega)))
  have HOK := Lib.hid hok
  have hz1' := HB1.out.size
  simp only [World.size_alloc] at hz1'
  clear hb1 hok
  by_cases hk : k = 0
  · obtain rfl := hk
    have hok := HOK.out rfl
    have hz0' : w.heap.size < w1.heap.size := by omega
    have hcl : w1.cell? ⟨w.heap.size, 0, none⟩ = some (.int .i64 limit) := (HB1.out.cell (p := ⟨w.heap.size, 0, none⟩) (Nat.lt_succ_self _)).trans (by simp [go_sem])
    obtain ⟨q, hq1, hq2⟩ : ∃ q : Nat, live.tdiv step = q ∧ (q : Int) * step = live := by
      have h1 : 0 ≤ live.tdiv step := Int.tdiv_nonneg (by have := hok.lv; omega) (by have := hok.st; omega)
      refine ⟨(live.tdiv step).toNat, by omega, ?_⟩
      rw [Int.toNat_of_nonneg h1]
      have := Int.tmod_add_mul_tdiv live step
      have h2 := hok.rem
      rw [Int.mul_comm]
      omega
    have hq3 : q ≤ 256 := by have := hok.quo; omega
    have HQ2 := Lib.hid hq2
    have HC := Lib.hid hok
    clear hq2 hok HOK
    have hst1 := HC.out.st
    have hlv1 := HC.out.lv
    gi_wp2_with fail
    refine wpIn_wide.2 ?_
    refine wp_region_bw2 (by kernel_rfl) (by kernel_rfl) (fun hbwc => ?_)
    repeat (go_big_quiet_step ((go_at_call 27; exact bwSame (scWithin_ _ _ _ _))))
    refine wpQuiet_nil ?_
    clear hbwc
    intro w3 hb
    have HB3 : Hid (Below w1.heap.size w1 w3) := hb
    have hz3 := hb.size
    have hcl3 : w3.cell? ⟨w.heap.size, 0, none⟩ = some (.int .i64 limit) := (hb.cell (p := ⟨w.heap.size, 0, none⟩) hz0').trans hcl
    have HW3 : Hid (Below w.heap.size w w3) := (show Below w.heap.size w (w.alloc (.cells #[.int .i64 limit] 3)) from (by repeat (first | exact Below.refl _ _ | assumption | refine below_drewN ?_ _ | refine Below.drew ?_ | refine Below.setCell ?_ (by first | omega | (simp; done) | (simp; omega)) _ | refine Below.alloc ?_ (by first | omega | (simp; done) | (simp; omega)) _))).trans ((HB1.out.mono (by omega)).trans (hb.mono (by omega)))
    clear hb
    cases ib : inB limit 0 (q : Int) with
    | false =>
      gi_wp2_with fail
      exact ⟨_, results_tmp2 rfl _ _ _, .no 8 (by decide) rfl HW3.out⟩
    | true =>
      have hlim := inB_true.1 ib
      have HLIM := Lib.hid hlim
      have HL3 := Lib.hid hcl3
      clear hcl hcl3 hlim
      gi_wp2_with fail
      refine ⟨trivial, (callsIn_wide.2 (statistics_ a b A B ca cb live window step q w3 HC.out HQ2.out hq3 ((HA.out.below HW3.out).more (by omega)) ((HB.out.below HW3.out).more (by omega)))).mono ?_⟩
      rintro e w4 ⟨SA, sc, rfl, ho4, hb4⟩
      have HO4 := Lib.hid ho4
      have HB4 := Lib.hid hb4
      have hz4 := hb4.size
      have HSTL := Lib.hid (statL_len a b live window step q)
      clear ho4 hb4
      obtain ⟨ST, hST⟩ : ∃ ST, statL a b live window step q = ST := ⟨_, rfl⟩
      have HST := Lib.hid hST
      rw [hST] at HO4 HSTL ⊢
      clear hST
      gi_wp2_with fail
      refine ⟨trivial, (callsIn_wide.2 (coincidences_ A B a.length ca b.length cb live window _)).mono ?_⟩
      rintro e w5 ⟨rfl, rfl⟩
      gi_wp2_with fail
      have hC := co4_b (((w4.alloc (.cells #[(.slice SA ST.length sc)] 32)).alloc (.cells #[(.func (.func 29) #[] #[.pointer (some ⟨w.heap.size, 0, none⟩)])] 89)).alloc (.cells #[.slice none 0 0] 26)) w4.heap.size (by simp; omega) A B ca cb a b live window (((HA.out.below (HW3.out.trans (HB4.out.mono (by omega)))).more (by omega)).below (by repeat (first | exact Below.refl _ _ | assumption | refine below_drewN ?_ _ | refine Below.drew ?_ | refine Below.setCell ?_ (by first | omega | (simp; done) | (simp; omega)) _ | refine Below.alloc ?_ (by first | omega | (simp; done) | (simp; omega)) _))) (((HB.out.below (HW3.out.trans (HB4.out.mono (by omega)))).more (by omega)).below (by repeat (first | exact Below.refl _ _ | assumption | refine below_drewN ?_ _ | refine Below.drew ?_ | refine Below.setCell ?_ (by first | omega | (simp; done) | (simp; omega)) _ | refine Below.alloc ?_ (by first | omega | (simp; done) | (simp; omega)) _)))
      simp only [World.size_alloc] at hC
      have bS := ((((((Boxed.new w4 32 (.slice SA ST.length sc)).alloc (.cells #[(.func (.func 29) #[] #[.pointer (some ⟨w.heap.size, 0, none⟩)])] 89)).alloc (.cells #[.slice none 0 0] 26)).alloc (.cells #[.slice A a.length ca] 22)).alloc (.cells #[.slice B b.length cb] 22)).alloc (.cells #[.int .i64 live] 3)).alloc (.cells #[.int .i64 window] 3)
      have bF := (((((Boxed.new (w4.alloc (.cells #[(.slice SA ST.length sc)] 32)) 89 (.func (.func 29) #[] #[.pointer (some ⟨w.heap.size, 0, none⟩)])).alloc (.cells #[.slice none 0 0] 26)).alloc (.cells #[.slice A a.length ca] 22)).alloc (.cells #[.slice B b.length cb] 22)).alloc (.cells #[.int .i64 live] 3)).alloc (.cells #[.int .i64 window] 3)
      have bO := ((((Boxed.new ((w4.alloc (.cells #[(.slice SA ST.length sc)] 32)).alloc (.cells #[(.func (.func 29) #[] #[.pointer (some ⟨w.heap.size, 0, none⟩)])] 89)) 26 (.slice none 0 0)).alloc (.cells #[.slice A a.length ca] 22)).alloc (.cells #[.slice B b.length cb] 22)).alloc (.cells #[.int .i64 live] 3)).alloc (.cells #[.int .i64 window] 3)
      have bZ := Boxed.new ((((((w4.alloc (.cells #[(.slice SA ST.length sc)] 32)).alloc (.cells #[(.func (.func 29) #[] #[.pointer (some ⟨w.heap.size, 0, none⟩)])] 89)).alloc (.cells #[.slice none 0 0] 26)).alloc (.cells #[.slice A a.length ca] 22)).alloc (.cells #[.slice B b.length cb] 22)).alloc (.cells #[.int .i64 live] 3)) 3 (.int .i64 window)
      simp only [World.size_alloc] at bF bO bZ
      have hB0 : Below w4.heap.size w4 (co4 (((w4.alloc (.cells #[(.slice SA ST.length sc)] 32)).alloc (.cells #[(.func (.func 29) #[] #[.pointer (some ⟨w.heap.size, 0, none⟩)])] 89)).alloc (.cells #[.slice none 0 0] 26)) A B a.length ca b.length cb live window) := (by repeat (first | exact Below.refl _ _ | assumption | refine below_drewN ?_ _ | refine Below.drew ?_ | refine Below.setCell ?_ (by first | omega | (simp; done) | (simp; omega)) _ | refine Below.alloc ?_ (by first | omega | (simp; done) | (simp; omega)) _))
      have hsz : (co4 (((w4.alloc (.cells #[(.slice SA ST.length sc)] 32)).alloc (.cells #[(.func (.func 29) #[] #[.pointer (some ⟨w.heap.size, 0, none⟩)])] 89)).alloc (.cells #[.slice none 0 0] 26)) A B a.length ca b.length cb live window).heap.size = w4.heap.size + 7 := by simp
      obtain ⟨W0, hW0⟩ : ∃ W0, (co4 (((w4.alloc (.cells #[(.slice SA ST.length sc)] 32)).alloc (.cells #[(.func (.func 29) #[] #[.pointer (some ⟨w.heap.size, 0, none⟩)])] 89)).alloc (.cells #[.slice none 0 0] 26)) A B a.length ca b.length cb live window) = W0 := ⟨_, rfl⟩
      rw [show (((((((w4.alloc (.cells #[(.slice SA ST.length sc)] 32)).alloc (.cells #[(.func (.func 29) #[] #[.pointer (some ⟨w.heap.size, 0, none⟩)])] 89)).alloc (.cells #[.slice none 0 0] 26)).alloc (.cells #[.slice A a.length ca] 22)).alloc (.cells #[.slice B b.length cb] 22)).alloc (.cells #[.int .i64 live] 3)).alloc (.cells #[.int .i64 window] 3)) = W0 from hW0] at bS bF bO bZ
      rw [hW0] at hC hB0 hsz ⊢
      clear hW0
      have hab : (a.length * b.length) * 40 ≤ 140737488355328 := by
        have h1 := HC.out.a
        have h2 := HC.out.b
        have : a.length * b.length ≤ 256 * 256 := Nat.mul_le_mul h1 h2
        omega
      refine wpIn_rangeFunc_ownH rfl (by omega) (gf := 68) (lb := #[.pointer (some ⟨w4.heap.size + 1 + 1 + 1, 0, none⟩), .pointer (some ⟨w4.heap.size + 1 + 1 + 1 + 1, 0, none⟩), .pointer (some ⟨w4.heap.size + 1 + 1 + 1 + 1 + 1, 0, none⟩), .pointer (some ⟨w4.heap.size + 1 + 1 + 1 + 1 + 1 + 1, 0, none⟩)]) rfl trivial (enters_of Tryz.func68 (by kernel_rfl) rfl)
        (co_stops (6 - 1) (by omega) (w4.heap.size + 1 + 1) (w4.heap.size + 1 + 1 + 1) w4.heap.size (w4.heap.size + 1 + 1 + 1 + 4) (by omega) (by omega) (Nat.le_refl _) live window A B ca cb a b W0 hC) KeepE.trans (fun W l o o' hl ho hc _ => KeepE.put W l o o' (by omega) ho hc) (Below.refl _ _) (fun _ => rfl)
        (fun pre W => (((∃ v, Boxed W (w4.heap.size + 1 + 1) 26 v ∧ W.ownsRow (w4.heap.size + 7) 45 5 v (candF ST limit pre).length (cnCells (candF ST limit pre)) ∧ True) ∧ Boxed W w4.heap.size 32 (.slice SA ST.length sc)) ∧ (Boxed W (w4.heap.size + 1) 89 (.func (.func 29) #[] #[.pointer (some ⟨w.heap.size, 0, none⟩)]) ∧ Boxed W (w4.heap.size + 1 + 1 + 1 + 1 + 1 + 1) 3 (.int .i64 window))) ∧ Below w4.heap.size w4 W) (fun _ _ _ => False)
        (OwnFrom.and (OwnFrom.and (OwnFrom.and (Own.from (holdsRow_own (w4.heap.size + 7) (w4.heap.size + 1 + 1) 26 45 5 (fun pre => (candF ST limit pre).length) (fun pre => cnCells (candF ST limit pre)) (fun _ _ => True)) _) (Own.from (boxed_own _ _ _) _)) (OwnFrom.and (Own.from (boxed_own _ _ _) _) (Own.from (boxed_own _ _ _) _))) (ownFrom_below (Nat.le_refl _) (by omega)))
        (fun _ _ _ _ _ hs _ _ => hs)
        ⟨⟨⟨⟨_, bO, World.ownsRow_nil _ _ _ _, trivial⟩, bS⟩, bF, bZ⟩, hB0⟩
        (fun x a' W => ∃ Bx, w4.heap.size + 1 + 1 < Bx ∧ W.heap[Bx]? = some (.cells #[.int .i64 x.1, .int .i64 x.2.1, .int .i64 x.2.2] 41 (0, 0)) ∧ a' = { tmps := #[.slice A a.length ca, .slice B b.length cb, .int .i64 live, .int .i64 window, .int .i64 step, .int .i64 limit, undef, undef, undef, undef, undef, .pointer (some ⟨w.heap.size, 0, none⟩), .slice none 0 0, .int .i64 0, .int .i64 0, .pointer (some ⟨w4.heap.size, 0, none⟩), .pointer (some ⟨w4.heap.size + 1, 0, none⟩), .pointer (some ⟨w4.heap.size + 1 + 1, 0, none⟩), .pointer (some ⟨Bx, 0, none⟩), undef, .int .i64 live, .int .i64 window, .int .i64 step, .slice A a.length ca, .slice B b.length cb, .slice (some ⟨w.heap.size + 1, 0, none⟩) 2 2, .int .i64 0, .int .i64 0, .bool false, undef, .int .i64 limit, .int .i64 live, .int .i64 step, .int .i64 q, .bool true, .bool false, .slice A a.length ca, .slice B b.length cb, .int .i64 live, .int .i64 window, .int .i64 step, (.slice SA ST.length sc), (.func (.func 29) #[] #[.pointer (some ⟨w.heap.size, 0, none⟩)]), .slice A a.length ca, .slice B b.length cb, .int .i64 live, .int .i64 window, .func (.func 68) #[] #[.pointer (some ⟨w4.heap.size + 1 + 1 + 1, 0, none⟩), .pointer (some ⟨w4.heap.size + 1 + 1 + 1 + 1, 0, none⟩), .pointer (some ⟨w4.heap.size + 1 + 1 + 1 + 1 + 1, 0, none⟩), .pointer (some ⟨w4.heap.size + 1 + 1 + 1 + 1 + 1 + 1, 0, none⟩)], .agg #[.int .i64 x.1, .int .i64 x.2.1, .int .i64 x.2.2], undef, undef, undef, undef, undef, undef, undef, undef, undef, undef, undef, undef, undef, undef], defers := [] })
        (fun x a' _ X Y row hs hg hr => by obtain ⟨Bx, h1, h2, h3⟩ := hs; exact ⟨Bx, h1, cells_own' Bx _ () X Y row h2 hg (fun r e => (hr r e).2), h3⟩)
        ?assign ?body ?done ?stop
      case assign =>
        rintro l pre x W K ⟨⟨⟨⟨v, bO1, hrow, -⟩, bS1⟩, bF1, bZ1⟩, hB1⟩ hK
        have hz := bZ1.lt
        have hl1 := bO1.lt
        gi_wp2
        exact hK _ _ ((KeepsOthers.alloc _ _).from _) (KeepE.of_below (m := W.heap.size) ((Below.refl _ W).alloc (Nat.le_refl _) _) (by omega) (Nat.le_refl _)) ⟨⟨⟨⟨v, bO1.alloc _, hrow.alloc _, trivial⟩, bS1.alloc _⟩, bF1.alloc _, bZ1.alloc _⟩, hB1.alloc hB1.size _⟩ ⟨W.heap.size, hl1, World.alloc_heap_new W _, rfl⟩
      case body =>
        rintro l pre x a' W hl ⟨r, hr⟩ ⟨⟨⟨⟨v, bO1, hrow, -⟩, bS1⟩, bF1, bZ1⟩, hB1⟩ ⟨Bx, hBx, bX, rfl⟩ hlt
        have cS := bS1.cell
        have cX2 : W.cell? ⟨Bx, 2, none⟩ = some (.int .i64 x.2.2) := by simp [World.cell?, bX]
        have HSN := Lib.hid (candF_snoc ST limit pre x)
        gi_wp2_with fail
        refine ⟨trivial, (CallsIn.inRound l (callsIn_wide.2 (sChance_ ST x.2.2 SA sc W ((((Sl.of_own HO4.out).below hB1)).more (by have := hB1.size; omega))))).mono ?_⟩
        rintro e w6 ⟨rfl, hb6⟩
        have HB6 := Lib.hid hb6
        have hz6 := hb6.size
        have hW6 : Below w4.heap.size w4 (w6.alloc (.cells #[.int .i64 (chN ST x.2.2), .int .i64 ST.length] 43)) := (hB1.trans (hb6.mono hB1.size)).alloc (by have := hB1.size; omega) _
        have bF6 : Boxed (w6.alloc (.cells #[.int .i64 (chN ST x.2.2), .int .i64 ST.length] 43)) (w4.heap.size + 1) 89 (.func (.func 29) #[] #[.pointer (some ⟨w.heap.size, 0, none⟩)]) := (bF1.kept (grown_below hb6) (by simp)).alloc _
        have cF := bF6.cell
        have hBxl : Bx < W.heap.size := (Array.getElem?_eq_some_iff.1 bX).1
        have HN := Lib.hid (chN_ge ST x.2.2)
        have HBX6 : Hid (w6.heap[Bx]? = some (.cells #[.int .i64 x.1, .int .i64 x.2.1, .int .i64 x.2.2] 41 (0, 0))) := (hb6.block _ hBxl).trans bX
        clear hb6 cS cX2
        gi_wp2_with fail
        refine ⟨trivial, (CallsIn.inRound l (callsIn_wide.2 (rare_ _ _ limit w.heap.size _ (by have := hW6.size; omega) ((hW6.cell (p := ⟨w.heap.size, 0, none⟩) (show w.heap.size < w4.heap.size by omega)).trans ((HB4.out.cell (p := ⟨w.heap.size, 0, none⟩) (show w.heap.size < w3.heap.size by omega)).trans HL3.out))))).mono ?_⟩
        rintro e w7 ⟨rfl, hb7⟩
        have hz7 := hb7.size
        simp only [World.size_alloc] at hz7
        have HB7 : Hid (Below W.heap.size W w7) := (HB6.out.alloc hz6 _).trans (hb7.mono (by simp; omega))
        have g7 := grown_below HB7.out
        have bO7 := bO1.kept g7 (by simp)
        have bS7 := bS1.kept g7 (by simp)
        have bF7 := bF1.kept g7 (by simp)
        have bZ7 := bZ1.kept g7 (by simp)
        have hrow7 := hrow.kept g7 (by cases v.ownBlock <;> simp)
        have hB7 : Below w4.heap.size w4 w7 := hB1.trans (HB7.out.mono hB1.size)
        have hk7 : KeepsFrom W0.heap.size W w7 := KeepsFrom.of_below HB7.out
        have hq7 : KeepE (w4.heap.size + 1 + 1) (w4.heap.size + 1 + 1 + 1 + 4) W w7 := KeepE.of_below HB7.out (by have := bZ1.lt; omega) (Nat.le_refl _)
        have cO7 := bO7.cell
        have cX7 : ∀ j u, (#[Value.int .i64 x.1, .int .i64 x.2.1, .int .i64 x.2.2] : Array Value)[j]? = some u → w7.cell? ⟨Bx, j, none⟩ = some u := fun j u hu => (HB7.out.cell (p := ⟨Bx, j, none⟩) hBxl).trans (by simp only [World.cell?, bX]; exact hu)
        have cX0 := cX7 0 _ rfl
        have cX1 := cX7 1 _ rfl
        have cX2 := cX7 2 _ rfl
        have cC0 : w7.cell? ⟨w6.heap.size, 0, none⟩ = some (.int .i64 (chN ST x.2.2)) := (hb7.cell (p := ⟨w6.heap.size, 0, none⟩) (show w6.heap.size < _ by simp)).trans (by simp [go_sem])
        have cC1 : w7.cell? ⟨w6.heap.size, 1, none⟩ = some (.int .i64 ST.length) := (hb7.cell (p := ⟨w6.heap.size, 1, none⟩) (show w6.heap.size < _ by simp)).trans (by simp [go_sem])
        obtain ⟨N, hN⟩ : ∃ N, chN ST x.2.2 = N := ⟨_, rfl⟩
        rw [hN] at HSN HN cC0 ⊢
        clear cX7 g7 hb7 hrow bO1 bF1 bS1 bZ1 hB1 cF bF6 hN bX hW6
        cases hd : decide ((N : Int) ≤ limit) with
        | true =>
          rw [hd] at HSN
          have HD := Lib.hid hd
          clear hd
          have hpl := candF_len ST limit pre
          have HE : Hid (candF ST limit (pre ++ [x]) = candF ST limit pre ++ [⟨x, N, ST.length⟩]) := HSN.out
          have hza := hB7.size
          have hlz := bZ7.lt
          gi_wp2_with (gi_at_builtin; refine wpListIn_append_own _ rfl _ _ 26 rfl (w4.heap.size + 7) 45 i0 (.agg #[.int .i64 0, .int .i64 0, .int .i64 0, .int .i64 0, .int .i64 0]) 5 40 Tryz.underlying26 hi hz0 hz1 hz2 rfl (by decide) _ _ _ rfl (hrow7.alloc _) ⟨w7.heap.size, 0, none⟩ 1 1 (cnCell ⟨x, N, ST.length⟩) rfl rfl (World.news_of_block (heap_alloc_new w7 _)) (cn_one _) (by unfold maxLen; omega) (by omega) (by simp; omega) ?_; intro v' w8 hown' hgrow _; obtain ⟨g', cap', rfl⟩ := ownsRow_succ hown'; obtain ⟨hv1, hv2, hr2, hk2', hb2⟩ := bO7.appended (by decide) (own_more hrow7 (show w4.heap.size + 1 + 1 ≤ w4.heap.size + 7 by omega)) (show w4.heap.size + 1 + 1 ≤ w7.heap.size by omega) (Nat.le_refl _) (own_more hown' (show w4.heap.size + 1 + 1 ≤ w4.heap.size + 7 by omega)) hgrow; have hx : Hid (∀ j, j < w4.heap.size + 7 → some j ≠ v.ownBlock) := fun j hj e => (by have := (hrow7.lt _ e.symm).1; omega); have bS8 := ((bS7.alloc _).kept hgrow (hx.out _ (by omega))).other (B' := w4.heap.size + 1 + 1) (by omega) (.slice (some ⟨g', 0, none⟩) ((candF ST limit pre).length + 1) cap'); have bF8 := ((bF7.alloc _).kept hgrow (hx.out _ (by omega))).other (B' := w4.heap.size + 1 + 1) (by omega) (.slice (some ⟨g', 0, none⟩) ((candF ST limit pre).length + 1) cap'); have bZ8 := ((bZ7.alloc _).kept hgrow (hx.out _ (by omega))).other (B' := w4.heap.size + 1 + 1) (by omega) (.slice (some ⟨g', 0, none⟩) ((candF ST limit pre).length + 1) cap'); have hq8 := KeepE.appended (e := w4.heap.size + 1 + 1) (n := w4.heap.size + 1 + 1 + 1 + 4) hrow7 (by decide) (by omega) hgrow hv1 (by decide) (by omega) (.slice (some ⟨g', 0, none⟩) ((candF ST limit pre).length + 1) cap'); have hc1 := hv1.cell; have hf1 := hv1.frozen)
          have hr3 := hown'.kept (grownBy_setCell' w8 (w4.heap.size + 1 + 1) (.slice (some ⟨g', 0, none⟩) ((candF ST limit pre).length + 1) cap')) (.inr fun e => by have := (hown'.lt _ e).1; omega)
          exact ⟨hk7.trans (hk2'.from _), hq7.trans hq8, ⟨⟨⟨_, hv2, (by rw [HE.out, cnCells_snoc, List.length_append]; exact hr3), trivial⟩, bS8⟩, bF8, bZ8⟩, hB7.trans (hb2.mono (by omega))⟩
        | false =>
          rw [hd] at HSN
          have HD := Lib.hid hd
          clear hd
          have HE : Hid (candF ST limit (pre ++ [x]) = candF ST limit pre) := by show _ = _; rw [HSN.out]; simp
          gi_wp2_with fail
          exact ⟨hk7, hq7, ⟨⟨⟨v, bO7, by rw [HE.out]; exact hrow7, trivial⟩, bS7⟩, bF7, bZ7⟩, hB7⟩
      case done =>
        rintro D ys W hD rfl ⟨⟨⟨⟨v, bO1, hrow, -⟩, -⟩, -⟩, hB1⟩ hK
        have cO := bO1.cell
        gi_wp2
        refine ⟨by simp, .inl ⟨_, _, rfl, run_takeDeferred hK, ?_⟩⟩
        obtain ⟨A', c', rfl⟩ := own_form hrow
        exact ⟨_, results_tmp2 rfl _ _ _, .ok q HQ2.out hq3 HLIM.out HC.out _ (by rw [HST.out]) A' c' rfl (ownsRow_putObj (own_more hrow (by omega)) _ hK rfl) (HW3.out.trans ((HB4.out.mono (by omega)).trans ((hB1.trans (belowK_b (w := w4) (Nat.le_refl _) W D _ _ (by omega) hK rfl rfl)).mono (by omega))))⟩
      case stop =>
        rintro D c pre W _ _ h _
        exact h.elim
  · have hk1 : (k != 0) = true := by simpa using hk
    gi_wp2_with fail
    exact ⟨_, results_tmp2 rfl _ _ _, .no k hk rfl (((show Below w.heap.size w _ from (by repeat (first | exact Below.refl _ _ | assumption | refine below_drewN ?_ _ | refine Below.drew ?_ | refine Below.setCell ?_ (by first | omega | (simp; done) | (simp; omega)) _ | refine Below.alloc ?_ (by first | omega | (simp; done) | (simp; omega)) _))).trans (HB1.out.mono (by omega))))⟩
end Go.Proofs.YtmpbhngjkbidcaaGreatDoor

/-
  What the walks of AlertNight and TopPublished share.
-/
namespace Go.Proofs.YtmpbhngjkbidcaaGreatDoor
open Go.RowKit Al
/-- The box made ahead of the call, behind the call. -/
theorem bx_callA {wn wm : World} {o : Obj} (hb : Below (World.alloc wn o).heap.size (World.alloc wn o) wm) (ho : o = .cells (Al.zero.val none 0).cells 55) : Bxa wm wn.heap.size wn.heap.size Al.zero none 0 := by
  subst ho
  exact (Bxa.new (w0 := wn) (w := wn) (Nat.le_refl _)).below hb
theorem bx_callD {wn wm : World} {o : Obj} (hb : Below (World.drew (World.alloc wn o)).heap.size (World.drew (World.alloc wn o)) wm) (ho : o = .cells (Al.zero.val none 0).cells 55) : Bxa wm wn.heap.size wn.heap.size Al.zero none 0 := by
  subst ho
  have h := Bxa.new (w0 := wn) (w := wn) (Nat.le_refl _)
  exact (show Bxa (World.drew (World.alloc wn _)) _ _ _ _ _ from ⟨h.lo, h.lt, h.cs, h.fr⟩).below hb
theorem kp_store (W : World) (g : Nat) (y : Alr) (D : Option Addr) (d : Nat) :
    Kp (fun i => i = g) W (((((((((W.setCell ⟨g, 0, none⟩ (.string y.ev)).setCell ⟨g, 1, none⟩ (.int .i64 y.ver)).setCell ⟨g, 2, none⟩ (.int .i64 y.tm)).setCell ⟨g, 3, none⟩ (.int .i64 y.n)).setCell ⟨g, 4, none⟩ (.int .i64 y.of)).setCell ⟨g, 5, none⟩ (.int .i64 y.grid)).setCell ⟨g, 6, none⟩ (.slice D y.cells.length d)).setCell ⟨g, 7, none⟩ (.bool y.wd)).setCell ⟨g, 8, none⟩ (.int .i64 y.before)) := by
  have h : ∀ (w' : World) (j : Nat) (u : Value), Kp (fun i => i = g) W w' → Kp (fun i => i = g) W (w'.setCell ⟨g, j, none⟩ u) := fun w' j u h => h.setCell (Or.inl rfl) u
  exact h _ _ _ (h _ _ _ (h _ _ _ (h _ _ _ (h _ _ _ (h _ _ _ (h _ _ _ (h _ _ _ (h _ _ _ (Kp.refl _ _)))))))))
theorem head_one {l : List Int} (h : 0 < l.length) : ∃ c, l.take 1 = [c] := by
  cases l with
  | nil => exact absurd h (Nat.lt_irrefl 0)
  | cons x r => exact ⟨x, rfl⟩
theorem Follow_l (a : Alr) (A : Option Addr) (c : Nat) (t cn co g : Int) (l : List Int) (D : Option Addr) (dc : Nat) (x : Alr) (k : Int) (w : World) {args : Array Value} (he : args = #[a.val A c, .int .i64 t, .agg #[.int .i64 cn, .int .i64 co], .int .i64 g, .slice D l.length dc]) (hv : folR a t cn co g l = (x, k)) (h : AIn w a A c) (hl : Sl w w.heap.size 1 D l.length dc (ints l)) (hr : Rdy w) :
    Calls Tryz.prog 13 args w (OwnT w.heap.size x k w) := by
  subst he
  exact Follow_is a A c t cn co g l D dc x k w hv h hl hr
theorem Draft_l (ev : ByteArray) (t pa pb pl cn co lim g : Int) (l : List Int) (D : Option Addr) (dc : Nat) (x : Alr) (k : Int) (w : World) {args : Array Value} (he : args = #[.string ev, .int .i64 t, .agg #[.int .i64 pa, .int .i64 pb, .int .i64 pl, .int .i64 cn, .int .i64 co], .int .i64 lim, .int .i64 g, .slice D l.length dc]) (hv : draftR ev t cn co lim g l = (x, k)) (hev : ev.size ≤ maxLen) (h : Sl w w.heap.size 1 D l.length dc (ints l)) :
    Calls Tryz.prog 11 args w (OwnT w.heap.size x k w) := by
  subst he
  exact Draft_is ev t pa pb pl cn co lim g l D dc x k w hv hev h
theorem Sl.cn_at {w : World} {B n c : Nat} {A : Option Addr} {l : List Cnd} (h : Sl w B 5 A n c (cnCells l)) {k : Nat} (hk : k < l.length) :
    ∃ b off, A = some ⟨b, off, none⟩ ∧ b < B ∧ w.cell? ⟨b, off + k * 5, none⟩ = some (.int .i64 l[k].p.1) ∧ w.cell? ⟨b, off + k * 5 + 1, none⟩ = some (.int .i64 l[k].p.2.1) ∧ w.cell? ⟨b, off + k * 5 + 2, none⟩ = some (.int .i64 l[k].p.2.2) ∧
      w.cell? ⟨b, off + k * 5 + 3, none⟩ = some (.int .i64 l[k].n) ∧ w.cell? ⟨b, off + k * 5 + 4, none⟩ = some (.int .i64 l[k].o) := by
  have hf : ∀ a, (cnCell a).length = 5 := fun _ => rfl
  have hn : n = l.length := by have := h.len; rw [show (cnCells l).length = _ from flatLen cnCell 5 hf l] at this; omega
  obtain ⟨b, off, e, hb, hc⟩ := h.at_ (by omega)
  have H := fun j hj => flatAt cnCell 5 hf hk j hj
  exact ⟨b, off, e, hb, hc _ _ (H 0 (by omega)), hc _ _ (H 1 (by omega)), hc _ _ (H 2 (by omega)), hc _ _ (H 3 (by omega)), hc _ _ (H 4 (by omega))⟩
/-- What is known of a candidate. -/
theorem cand_mem {st : List Int} {limit live window : Int} {a b : List Trg} {x : Cnd} (h : x ∈ candF st limit (coL live window a b)) : (0 ≤ x.p.1 ∧ x.p.1 < a.length ∧ 0 ≤ x.p.2.1 ∧ x.p.2.1 < b.length) ∧ 1 ≤ x.n ∧ x.n ≤ limit ∧ x.o = st.length := by
  unfold candF at h
  obtain ⟨p, hp, rfl⟩ := List.mem_map.1 h
  obtain ⟨h1, h2⟩ := List.mem_filter.1 hp
  exact ⟨coL_mem h1, by have := chN_ge st p.2.2; show 1 ≤ ((chN st p.2.2 : Nat) : Int); omega, of_decide_eq_true h2, rfl⟩
theorem sq_nat (g : Int) : ∃ N : Nat, (N : Int) = 6 * (g * g) := ⟨6 * (g.natAbs * g.natAbs), by rw [Int.natCast_mul, Int.natAbs_mul_self]; rfl⟩
theorem fitG_ok {L : List NSi} {g : Int} {t : List Trg} (h : fitG L g t = 0) : netG L g = 0 := by
  unfold fitG at h
  by_cases hn : netG L g = 0
  · exact hn
  · rw [if_neg (by simpa using hn)] at h
    exact h
end Go.Proofs.YtmpbhngjkbidcaaGreatDoor
