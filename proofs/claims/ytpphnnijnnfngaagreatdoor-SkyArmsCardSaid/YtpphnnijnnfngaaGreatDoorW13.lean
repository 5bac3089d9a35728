/-
  The walk of the sky's chosen: the cells whose directions are as asked for.
-/
import Derived.Test.YtpphnnijnnfngaaGreatDoorW12
import Derived.RangeFuncNested
import Derived.Shelf.Abstract
import Derived.RangeFuncKeeps
import Derived.Test.YtpphnnijnnfngaaGreatDoorW10
import Derived.Test.YtpphnnijnnfngaaGreatDoorW01
import Derived.Test.YtpphnnijnnfngaaGreatDoorW11
namespace Go.Proofs.YtpphnnijnnfngaaGreatDoor
open Go.RowKit Al
attribute [local go_sem] Oper.semAt_some

/-- The chosen cells. -/
def pickL (is : V3 → Bool) (l : List CD) : List Int := (l.filter fun x => is x.2).map (·.1)
theorem pickL_snoc (is : V3 → Bool) (l : List CD) (x : CD) : pickL is (l ++ [x]) = pickL is l ++ (if is x.2 then [x.1] else []) := by
  unfold pickL
  rw [List.filter_append, List.map_append]
  congr 1
  cases h : is x.2 <;> simp [h]
theorem cInfo : (Tryz.prog.info? 3).map (fun i => (i.zero, i.size, i.bytes)) = some (some (.int .i64 0), 1, 8) := by kernel_rfl
theorem own_le {w : World} {base base' e sz : Nat} {v : Value} {n : Nat} {xs : List Value} (h : w.ownsRow base e sz v n xs) (hb : base' ≤ base) : w.ownsRow base' e sz v n xs :=
  ⟨h.1, h.2.imp id fun ⟨g, c, cu, a, b, r⟩ => ⟨g, c, cu, a, Nat.le_trans hb b, r⟩⟩
theorem cells_own (B : Nat) (c : Array Value) {t : TypeId} {f : Nat × Nat} : Own (fun (_ : Unit) W => W.heap[B]? = some (.cells c t f)) := fun s X Y row hs hg hrow =>
  (hg.block B (Array.getElem?_eq_some_iff.1 hs).1 (fun e' => by obtain ⟨o, ho, hc⟩ := hrow B e'.symm; rw [hs] at ho; cases ho; cases hc)).trans hs
set_option maxRecDepth 100000 in
set_option maxHeartbeats 4000000 in
theorem chosen_ (g : Int) (h1 : 1 ≤ g) (h2 : g ≤ 8) (N : Nat) (hN : (N : Int) = 6 * (g * g)) (fi : Nat) (lb : Array Value) (is : V3 → Bool) (w : World)
    (hen : ∀ (args : Array Value) (W : World), (callFunc fi args).run Tryz.prog W = .ok (.enter fi args) W)
    (his : ∀ (d : V3) (W : World), Below w.heap.size w W → Calls Tryz.prog fi (#[v3 d] ++ lb) W fun e W' => e = .returned (.bool (is d)) ∧ Below W.heap.size W W') :
    Calls Tryz.prog 32 #[.int .i64 g, .func (.func fi) #[] lb] w fun e w' => ∃ v, e = .returned v ∧ w'.ownsRow w.heap.size 3 1 v (pickL is (cellsL g N)).length (ints (pickL is (cellsL g N))) ∧ Below w.heap.size w w' := by
  obtain ⟨i0, hi, hz0, hz1, hz2⟩ := info_parts cInfo
  refine (callsIn_wide (n := 6)).1 ?_
  refine callsIn_of_wp_marks Tryz.func32 rfl trivial ?_ rfl
  simp only [Tryz.ntmps32, List.size_toArray, List.length_cons, List.length_nil, Nat.reduceAdd, Nat.reduceSub, Array.replicate_succ, Array.replicate_zero, List.push_toArray, List.append_toArray, List.nil_append, List.cons_append]
  gi_wp2_with fail
  refine ⟨trivial, (callsIn_wide.2 (cells_ g _)).mono ?_⟩
  rintro e w1 ⟨rfl, rfl⟩
  gi_wp2_with fail
  have hN' : N ≤ 384 := by have := sq_in h1 h2; omega
  have bF := ((Boxed.new w 87 (.func (.func fi) #[] lb)).alloc (.cells #[.slice none 0 0] 48)).alloc (.cells #[.int .i64 g] 3)
  have bO := (Boxed.new (w.alloc (.cells #[.func (.func fi) #[] lb] 87)) 48 (.slice none 0 0)).alloc (.cells #[.int .i64 g] 3)
  have bG := Boxed.new ((w.alloc (.cells #[.func (.func fi) #[] lb] 87)).alloc (.cells #[.slice none 0 0] 48)) 3 (.int .i64 g)
  simp only [World.size_alloc] at bO bG
  have hB0 : Below w.heap.size w (((w.alloc (.cells #[.func (.func fi) #[] lb] 87)).alloc (.cells #[.slice none 0 0] 48)).alloc (.cells #[.int .i64 g] 3)) := (by repeat (first | exact Below.refl _ _ | assumption | refine below_drewN ?_ _ | refine Below.drew ?_ | refine Below.setCell ?_ (by first | omega | (simp; done) | (simp; omega)) _ | refine Below.alloc ?_ (by first | omega | (simp; done) | (simp; omega)) _))
  have hsz : (((w.alloc (.cells #[.func (.func fi) #[] lb] 87)).alloc (.cells #[.slice none 0 0] 48)).alloc (.cells #[.int .i64 g] 3)).heap.size = w.heap.size + 3 := by simp
  have cG : (((w.alloc (.cells #[.func (.func fi) #[] lb] 87)).alloc (.cells #[.slice none 0 0] 48)).alloc (.cells #[.int .i64 g] 3)).cell? ⟨w.heap.size + 1 + 1, 0, none⟩ = some (.int .i64 g) := by simp [go_sem]
  obtain ⟨W0, hW0⟩ : ∃ W0, ((w.alloc (.cells #[.func (.func fi) #[] lb] 87)).alloc (.cells #[.slice none 0 0] 48)).alloc (.cells #[.int .i64 g] 3) = W0 := ⟨_, rfl⟩
  rw [hW0] at bF bO bG hB0 hsz cG ⊢
  clear hW0
  refine wpIn_rangeFunc_ownH rfl (by omega) (gf := 93) (lb := #[.pointer (some ⟨w.heap.size + 1 + 1, 0, none⟩)]) rfl trivial (enters_of Tryz.func93 (by kernel_rfl) rfl)
    (cells_stops (6 - 1) (by omega) (w.heap.size + 1 + 1) g h1 h2 N hN _ (by omega) cG) KeepB.trans (fun W l o o' hl _ _ _ => KeepB.put W o' (by omega)) (Below.refl _ _) (fun _ => rfl)
    (fun pre W => ((∃ v, Boxed W (w.heap.size + 1) 48 v ∧ W.ownsRow (w.heap.size + 3) 3 1 v (pickL is pre).length (ints (pickL is pre)) ∧ True) ∧ (Boxed W w.heap.size 87 (.func (.func fi) #[] lb) ∧ Boxed W (w.heap.size + 1 + 1) 3 (.int .i64 g))) ∧ Below w.heap.size w W) (fun _ _ _ => False)
    (OwnFrom.and (OwnFrom.and (Own.from (holdsRow_own (w.heap.size + 3) (w.heap.size + 1) 48 3 1 (fun pre => (pickL is pre).length) (fun pre => ints (pickL is pre)) (fun _ _ => True)) _) (OwnFrom.and (Own.from (boxed_own _ _ _) _) (Own.from (boxed_own _ _ _) _))) (ownFrom_below (Nat.le_refl _) (by omega)))
    (fun _ _ _ _ _ hs _ _ => hs)
    ⟨⟨⟨_, bO, World.ownsRow_nil _ _ _ _, trivial⟩, bF, bG⟩, hB0⟩
    (fun x a' W => ∃ Bx, w.heap.size + 1 < Bx ∧ W.heap[Bx]? = some (.cells #[.int .i64 x.2.1, .int .i64 x.2.2.1, .int .i64 x.2.2.2] 40 (0, 0)) ∧ a' =
      { tmps := #[.int .i64 g, .func (.func fi) #[] lb, undef, .pointer (some ⟨w.heap.size, 0, none⟩), .slice none 0 0, .pointer (some ⟨w.heap.size + 1, 0, none⟩), .int .i64 x.1, .pointer (some ⟨Bx, 0, none⟩), .int .i64 g, .func (.func 93) #[] #[.pointer (some ⟨w.heap.size + 1 + 1, 0, none⟩)], .int .i64 x.1, v3 x.2, undef, undef, undef, undef, undef, undef, undef, undef], defers := [] })
    (fun x a' _ X Y row hs hg hr => by obtain ⟨Bx, h1, h2, h3⟩ := hs; exact ⟨Bx, h1, cells_own Bx _ () X Y row h2 hg (fun r e => (hr r e).2), h3⟩)
    ?assign ?body ?done ?stop
  case assign =>
    rintro l pre x W K ⟨⟨⟨v, bO1, hrow, -⟩, bF1, bG1⟩, hB1⟩ hK
    have hs1 := hB1.size
    have hl1 := bO1.lt
    gi_wp2
    exact hK _ _ ((KeepsOthers.alloc _ _).from _) (KeepB.of_below ((Below.refl _ W).alloc (Nat.le_refl _) _) (by exact bG1.lt)) ⟨⟨⟨v, bO1.alloc _, hrow.alloc _, trivial⟩, bF1.alloc _, bG1.alloc _⟩, hB1.alloc hB1.size _⟩ ⟨W.heap.size, hl1, World.alloc_heap_new W _, rfl⟩
  case body =>
    rintro l pre x a' W hl ⟨r, hr⟩ ⟨⟨⟨v, bO1, hrow, -⟩, bF1, bG1⟩, hB1⟩ ⟨Bx, hBx, bX, rfl⟩ hlt
    obtain ⟨q, hq⟩ : ∃ q, is x.2 = q := ⟨_, rfl⟩
    have hC := his x.2 W hB1
    rw [hq] at hC
    have HQ := Lib.hid hq
    have HH := Lib.hid his
    clear his hq
    have cF := bF1.cell
    have cX0 : W.cell? ⟨Bx, 0, none⟩ = some (.int .i64 x.2.1) := by simp [World.cell?, bX]
    have cX1 : W.cell? ⟨Bx, 1, none⟩ = some (.int .i64 x.2.2.1) := by simp [World.cell?, bX]
    have cX2 : W.cell? ⟨Bx, 2, none⟩ = some (.int .i64 x.2.2.2) := by simp [World.cell?, bX]
    gi_wp2_with fail
    refine ⟨trivial, (CallsIn.inRound l (callsIn_wide.2 hC)).mono ?_⟩
    clear hC
    rintro e W1 ⟨rfl, hb⟩
    have bO2 := bO1.kept (grown_of_below hb) (by simp)
    have bF2 := bF1.kept (grown_of_below hb) (by simp)
    have bG2 := bG1.kept (grown_of_below hb) (by simp)
    have hrow2 := hrow.kept (grown_of_below hb) (by cases v.ownBlock <;> simp)
    have hk2 : KeepsFrom W0.heap.size W W1 := KeepsFrom.of_below hb
    have hB2 : Below w.heap.size w W1 := hB1.trans (hb.mono hB1.size)
    have hq2 : Below w.heap.size W W1 := hb.mono hB1.size
    have hkp : KeepB (w.heap.size + 1 + 1) W W1 := KeepB.of_below hb bG1.lt
    clear hrow bF1 bO1 bG1 hB1 hb
    have cO := bO2.cell
    cases q with
    | true =>
      have hpl : (pickL is pre).length ≤ pre.length := by unfold pickL; rw [List.length_map]; exact List.length_filter_le _ _
      have HE : Hid (pickL is (pre ++ [x]) = pickL is pre ++ [x.1]) := by show _ = _; rw [pickL_snoc, HQ.out]; rfl
      gi_wp2_with (gi_at_builtin; refine wpListIn_append_own _ rfl _ _ 48 rfl (w.heap.size + 3) 3 i0 (.int .i64 0) 1 8 Tryz.underlying48 hi hz0 hz1 hz2 rfl (by decide) _ _ _ rfl (hrow2.alloc _) ⟨W1.heap.size, 0, none⟩ 1 1 [.int .i64 x.1] rfl rfl ?c1 ?c2 ?c3 ?c4 ?c5 ?_; (case c1 => exact cell_one_new _ _ _); (case c2 => simp [Value.oneCell']); (case c3 => unfold maxLen; omega); (case c4 => omega); (case c5 => have := bG2.lt; simp; omega); intro v' w1 hown' hgrow _; obtain ⟨g', cap', rfl⟩ := ownsRow_succ hown'; obtain ⟨hv1, hv2, hr2, hk2', hb2⟩ := bO2.appended (by decide) (own_le hrow2 (Nat.le_add_right w.heap.size 3)) hB2.size (Nat.le_add_right _ 1) (own_le hown' (Nat.le_add_right w.heap.size 3)) hgrow; have hx : Hid (some (w.heap.size + 1 + 1) ≠ v.ownBlock ∧ some w.heap.size ≠ v.ownBlock) := ⟨fun e => by have := (hrow2.lt _ e.symm).1; omega, fun e => by have := (hrow2.lt _ e.symm).1; omega⟩; have bG3 := ((bG2.alloc _).kept hgrow hx.out.1).other (B' := w.heap.size + 1) (by omega) (.slice (some ⟨g', 0, none⟩) ((pickL is pre).length + 1) cap'); have bF3 := ((bF2.alloc _).kept hgrow hx.out.2).other (B' := w.heap.size + 1) (by omega) (.slice (some ⟨g', 0, none⟩) ((pickL is pre).length + 1) cap'); have hc1 := hv1.cell; have hf1 := hv1.frozen)
      have hr3 := hown'.kept (grownBy_setCell' w1 (w.heap.size + 1) (.slice (some ⟨g', 0, none⟩) ((pickL is pre).length + 1) cap')) (.inr fun e => by have := (hown'.lt _ e).1; omega)
      exact ⟨hk2.trans (hk2'.from _), hkp.trans ⟨hb2.size, (show _ = _ from bG3).trans (show _ = _ from bG2).symm⟩, ⟨⟨⟨_, hv2, by rw [HE.out]; simpa [ints] using hr3, trivial⟩, bF3, bG3⟩, hB2.trans hb2⟩⟩
    | false =>
      have HE : Hid (pickL is (pre ++ [x]) = pickL is pre) := by show _ = _; rw [pickL_snoc, HQ.out]; simp
      gi_wp2_with fail
      exact ⟨hk2, hkp, ⟨⟨⟨v, bO2, by rw [HE.out]; exact hrow2, trivial⟩, bF2, bG2⟩, hB2⟩⟩
  case done =>
    rintro D ys W hD rfl ⟨⟨⟨v, hv, hrow, -⟩, -⟩, hB⟩ hK
    have hc := hv.cell
    gi_wp2
    refine ⟨by simp, .inl ⟨_, _, rfl, run_takeDeferred hK, ?_⟩⟩
    exact ⟨_, results_tmp rfl _ _ _, v, rfl, ownsRow_putObj (own_le hrow (Nat.le_add_right w.heap.size 3)) _ hK rfl, hB.trans (belowK_b (w := w) (Nat.le_refl _) W D _ _ (by omega) hK rfl rfl)⟩
  case stop =>
    rintro D c pre W _ _ h _
    exact h.elim
end Go.Proofs.YtpphnnijnnfngaaGreatDoor

/-
  The walk of the closure of the sky's Fits: do all pairs of arrivals fit a direction?
-/
namespace Go.Proofs.YtpphnnijnnfngaaGreatDoor
open Go.RowKit Al

theorem flatAt {α : Type} (f : α → List Value) (m : Nat) (hf : ∀ a, (f a).length = m) : ∀ {l : List α} {k : Nat} (h : k < l.length) (j : Nat), j < m → (l.flatMap f)[k * m + j]? = (f l[k])[j]?
  | [], _, h, _, _ => absurd h (by simp)
  | a :: l, 0, _, j, hj => by
    rw [List.flatMap_cons, Nat.zero_mul, Nat.zero_add, List.getElem?_append_left (by rw [hf]; exact hj)]
    rfl
  | a :: l, k + 1, h, j, hj => by
    have := flatAt f m hf (l := l) (k := k) (by simpa using h) j hj
    rw [List.flatMap_cons, show (k + 1) * m + j = (f a).length + (k * m + j) by rw [hf, Nat.succ_mul]; omega, List.getElem?_append_right (by omega), Nat.add_sub_cancel_left, this]
    rfl
theorem flatLen {α : Type} (f : α → List Value) (m : Nat) (hf : ∀ a, (f a).length = m) (l : List α) : (l.flatMap f).length = l.length * m := by
  induction l with
  | nil => simp
  | cons a l ih => rw [List.flatMap_cons, List.length_append, hf, ih, List.length_cons, Nat.succ_mul]; omega
def siCell (s : Site) : List Value := [.int .i64 s.p.1, .int .i64 s.p.2.1, .int .i64 s.p.2.2, .int .i64 s.u.1, .int .i64 s.u.2.1, .int .i64 s.u.2.2, .int .i64 s.v.1, .int .i64 s.v.2.1, .int .i64 s.v.2.2]
/-- The cells of sites. -/
def siCells (l : List Site) : List Value := l.flatMap siCell
/-- The cells of a site of a slice. -/
theorem Sl.si_at {w : World} {B n c : Nat} {A : Option Addr} {l : List Site} (h : Sl w B 9 A n c (siCells l)) {k : Nat} (hk : k < l.length) :
    ∃ b off, A = some ⟨b, off, none⟩ ∧ b < B ∧ w.cell? ⟨b, off + k * 9, none⟩ = some (.int .i64 l[k].p.1) ∧ w.cell? ⟨b, off + k * 9 + 1, none⟩ = some (.int .i64 l[k].p.2.1) ∧ w.cell? ⟨b, off + k * 9 + 2, none⟩ = some (.int .i64 l[k].p.2.2) ∧
      w.cell? ⟨b, off + k * 9 + 3, none⟩ = some (.int .i64 l[k].u.1) ∧ w.cell? ⟨b, off + k * 9 + 4, none⟩ = some (.int .i64 l[k].u.2.1) ∧ w.cell? ⟨b, off + k * 9 + 5, none⟩ = some (.int .i64 l[k].u.2.2) ∧
      w.cell? ⟨b, off + k * 9 + 6, none⟩ = some (.int .i64 l[k].v.1) ∧ w.cell? ⟨b, off + k * 9 + 7, none⟩ = some (.int .i64 l[k].v.2.1) ∧ w.cell? ⟨b, off + k * 9 + 8, none⟩ = some (.int .i64 l[k].v.2.2) := by
  have hf : ∀ a, (siCell a).length = 9 := fun _ => rfl
  have hn : n = l.length := by have := h.len; rw [show (siCells l).length = _ from flatLen siCell 9 hf l] at this; omega
  obtain ⟨b, off, e, hb, hc⟩ := h.at_ (by omega)
  have H := fun j hj => flatAt siCell 9 hf hk j hj
  exact ⟨b, off, e, hb, hc _ _ (H 0 (by omega)), hc _ _ (H 1 (by omega)), hc _ _ (H 2 (by omega)), hc _ _ (H 3 (by omega)), hc _ _ (H 4 (by omega)), hc _ _ (H 5 (by omega)), hc _ _ (H 6 (by omega)), hc _ _ (H 7 (by omega)), hc _ _ (H 8 (by omega))⟩
def noSite : Site := ⟨(0, 0, 0), (0, 0, 0), (0, 0, 0)⟩
def siteAt (S : List Site) (i : Int) : Site := S.getD i.toNat noSite
/-- Do two arrivals fit a direction? -/
def pairB (S : List Site) (d : V3) (x y : Trg) : Bool := diffB (siteAt S y.1) (siteAt S x.1) d (x.2.1 - y.2.1) (x.2.2 + y.2.2)
def rowB (S : List Site) (d : V3) (t : List Trg) (i : Nat) : Bool := (t.take i).all (pairB S d (t.getD i (0, 0, 0)))
def fitN (S : List Site) (d : V3) (t : List Trg) (k : Nat) : Bool := (List.range k).all (rowB S d t)
/-- Do all pairs of arrivals fit a direction? -/
def fitB (S : List Site) (t : List Trg) (d : V3) : Bool := fitN S d t t.length
theorem fitN_succ (S : List Site) (d : V3) (t : List Trg) (k : Nat) : fitN S d t (k + 1) = (fitN S d t k && rowB S d t k) := by
  unfold fitN
  rw [List.range_succ, List.all_append]
  simp
theorem fitB_no {S : List Site} {d : V3} {t : List Trg} {k : Nat} (hk : k < t.length) (h : rowB S d t k = false) : fitB S t d = false := by
  unfold fitB fitN
  rw [List.all_eq_false]
  exact ⟨k, by simpa using hk, by rw [h]; simp⟩
theorem all_take_succ {α : Type} (p : α → Bool) {l : List α} {j : Nat} (h : j < l.length) : (l.take (j + 1)).all p = ((l.take j).all p && p l[j]) := by
  rw [List.take_succ_eq_append_getElem h, List.all_append]
  simp
theorem rowB_no {S : List Site} {d : V3} {t : List Trg} {k j : Nat} (hk : k < t.length) (hj : j < k) (h : pairB S d t[k] (t[j]'(by omega)) = false) : rowB S d t k = false := by
  unfold rowB
  rw [List.all_eq_false]
  refine ⟨t[j]'(by omega), List.mem_take_iff_getElem.2 ⟨j, by omega, rfl⟩, ?_⟩
  rw [show t.getD k (0, 0, 0) = t[k] by simp [hk], h]
  simp
/-- An arrival in order. -/
structure ArrOk (n : Nat) (x : Trg) : Prop where
  s0 : 0 ≤ x.1
  s1 : x.1 < n
  t0 : -1099511627776 ≤ x.2.1
  t1 : x.2.1 ≤ 1099511627776
  k0 : 0 ≤ x.2.2
  k1 : x.2.2 ≤ 65536
def FcRel (S : List Site) (d : V3) (t : List Trg) (w : World) (i : Value) (wr : World) : Prop := ∃ k : Nat, k ≤ t.length ∧ i = .int .i64 k ∧ Hid (fitN S d t k = true) ∧ Below w.heap.size w wr
def FdRel (S : List Site) (d : V3) (t : List Trg) (k : Nat) (w : World) (i : Value) (wr : World) : Prop := ∃ j : Nat, j ≤ k ∧ i = .int .i64 j ∧ Hid ((t.take j).all (pairB S d (t.getD k (0, 0, 0))) = true) ∧ Below w.heap.size w wr
end Go.Proofs.YtpphnnijnnfngaaGreatDoor

/-
  The walk of the sky's named: have elements names, no two equal?
-/
namespace Go.Proofs.YtpphnnijnnfngaaGreatDoor
open Go.RowKit Al

/-- A site with its name. -/
structure NSi where
  nm : ByteArray
  s : Site
def nsCell (x : NSi) : List Value := .string x.nm :: siCell x.s
/-- The cells of sites with names. -/
def nsCells (l : List NSi) : List Value := l.flatMap nsCell
/-- The cells of a site of a slice. -/
theorem Sl.ns_at {w : World} {B n c : Nat} {A : Option Addr} {l : List NSi} (h : Sl w B 10 A n c (nsCells l)) {k : Nat} (hk : k < l.length) :
    ∃ b off, A = some ⟨b, off, none⟩ ∧ b < B ∧ w.cell? ⟨b, off + k * 10, none⟩ = some (.string l[k].nm) ∧ w.cell? ⟨b, off + k * 10 + 1, none⟩ = some (.int .i64 l[k].s.p.1) ∧ w.cell? ⟨b, off + k * 10 + 2, none⟩ = some (.int .i64 l[k].s.p.2.1) ∧ w.cell? ⟨b, off + k * 10 + 3, none⟩ = some (.int .i64 l[k].s.p.2.2) ∧
      w.cell? ⟨b, off + k * 10 + 4, none⟩ = some (.int .i64 l[k].s.u.1) ∧ w.cell? ⟨b, off + k * 10 + 5, none⟩ = some (.int .i64 l[k].s.u.2.1) ∧ w.cell? ⟨b, off + k * 10 + 6, none⟩ = some (.int .i64 l[k].s.u.2.2) ∧
      w.cell? ⟨b, off + k * 10 + 7, none⟩ = some (.int .i64 l[k].s.v.1) ∧ w.cell? ⟨b, off + k * 10 + 8, none⟩ = some (.int .i64 l[k].s.v.2.1) ∧ w.cell? ⟨b, off + k * 10 + 9, none⟩ = some (.int .i64 l[k].s.v.2.2) := by
  have hf : ∀ a, (nsCell a).length = 10 := fun _ => rfl
  have hn : n = l.length := by have := h.len; rw [show (nsCells l).length = _ from flatLen nsCell 10 hf l] at this; omega
  obtain ⟨b, off, e, hb, hc⟩ := h.at_ (by omega)
  have H := fun j hj => flatAt nsCell 10 hf hk j hj
  exact ⟨b, off, e, hb, hc _ _ (H 0 (by omega)), hc _ _ (H 1 (by omega)), hc _ _ (H 2 (by omega)), hc _ _ (H 3 (by omega)), hc _ _ (H 4 (by omega)), hc _ _ (H 5 (by omega)), hc _ _ (H 6 (by omega)), hc _ _ (H 7 (by omega)), hc _ _ (H 8 (by omega)), hc _ _ (H 9 (by omega))⟩
@[reducible] def NSi.val (x : NSi) : Value := .agg #[.string x.nm, .int .i64 x.s.p.1, .int .i64 x.s.p.2.1, .int .i64 x.s.p.2.2, .int .i64 x.s.u.1, .int .i64 x.s.u.2.1, .int .i64 x.s.u.2.2, .int .i64 x.s.v.1, .int .i64 x.s.v.2.1, .int .i64 x.s.v.2.2]
set_option maxRecDepth 100000 in
theorem nameF_ (x : NSi) (w : World) : Calls Tryz.prog 85 #[x.val] w fun e w' => e = .returned (.string x.nm) ∧ Below w.heap.size w w' := by
  obtain ⟨n, ⟨a1, a2, a3⟩, ⟨a4, a5, a6⟩, ⟨a7, a8, a9⟩⟩ := x
  go_enter Tryz.func85, Tryz.ntmps85
  go_wp2_with fail
  go_ret
  exact ⟨rfl, (by repeat (first | exact Below.refl _ _ | assumption | refine below_drewN ?_ _ | refine Below.drew ?_ | refine Below.setCell ?_ (by first | omega | (simp; done) | (simp; omega)) _ | refine Below.alloc ?_ (by first | omega | (simp; done) | (simp; omega)) _))⟩
abbrev Str := List UInt8
/-- Is name k one, and not among those before it? -/
def nameStep (ns : List Str) (k : Nat) : Bool := isName (ns.getD k []) && !(ns.take k).contains (ns.getD k [])
def namedN (ns : List Str) (k : Nat) : Bool := (List.range k).all (nameStep ns)
/-- Are these names, no two equal? -/
def namedB (ns : List Str) : Bool := namedN ns ns.length
theorem namedN_succ (ns : List Str) (k : Nat) : namedN ns (k + 1) = (namedN ns k && nameStep ns k) := by
  unfold namedN
  rw [List.range_succ, List.all_append]
  simp
theorem namedB_no {ns : List Str} {k : Nat} (hk : k < ns.length) (h : nameStep ns k = false) : namedB ns = false := by
  unfold namedB namedN
  rw [List.all_eq_false]
  exact ⟨k, by simpa using hk, by rw [h]; simp⟩
def seenF (ns : List Str) (k : Nat) (s : Str) : Option Value := if (ns.take k).contains s then some (.bool true) else none
theorem seenF_succ {ns : List Str} {k : Nat} (hk : k < ns.length) {n : Str} (hn : ns[k] = n) : seenF ns (k + 1) = fun s => if s = n then some (.bool true) else seenF ns k s := by
  funext s
  unfold seenF
  rw [List.take_succ_eq_append_getElem hk, hn]
  by_cases h : s = n
  · subst h; simp
  · rw [if_neg h]
    congr 1
    simp [h]
theorem zeroBool (w : World) : (zeroValue 4).run Tryz.prog w = .ok (.bool false) w := by kernel_rfl
theorem wpList_mapUpdate_nm {w : World} {ops : Array Oper} {rest : List Oper} {o : Oper} {a : Act} {Q : Exit → Act → World → Prop} (hg : o.guard = none) (m x v : Operand) (hop : o.op = Op.mapUpdate 186 m x v)
    (mb n c : Nat) (f : List UInt8 → Option Value) (hmap : QapS w mb n c f) (hn : n < maxLen) (hm : a.eval m = .map (some mb)) (s : ByteArray) (hs : s.size ≤ maxLen) (hx : a.eval x = .string s) (u : Value) (hv : a.eval v = u)
    (hK : ∀ w', QapS w' mb (n + 1) (if (f s.data.toList).isSome then c else c + 1) (fun k => if k = s.data.toList then some u else f k) → w.grownBy w' (some mb) → wpList Tryz.prog ops Q rest (a.put o.dst undef) w') : wpList Tryz.prog ops Q (o :: rest) a w := by
  refine wpList_plain hg fun K' hK' => ?_
  obtain ⟨w', hrun, r1, r2⟩ := hmap.put keyLawQ Tryz.underlying186 hn (WideMaps.keyOf_string_mk Tryz.underlying9 hs) (fun u => strLit_injQ _ u) (isKeyQ _) u
  unfold Oper.wp
  simp [execOp, hop, hm, hx, hv, hrun, Result.andThen]
  exact hK' _ _ (hK w' r1 r2)
theorem seenF_get (ns : List Str) (k : Nat) (s : Str) : (seenF ns k s).getD (.bool false) = .bool ((ns.take k).contains s) := by
  unfold seenF
  cases (ns.take k).contains s <;> rfl
def nmRel (N : List Str) (w : World) (i : Value) (wr : World) : Prop :=
  ∃ (k c : Nat), k ≤ N.length ∧ i = .int .i64 k ∧ Hid (namedN N k = true) ∧ QapS wr w.heap.size k c (seenF N k) ∧ Below w.heap.size w wr
set_option maxRecDepth 100000 in
set_option maxHeartbeats 8000000 in
theorem namedS_ (L : List NSi) (A : Option Addr) (c : Nat) (w : World) (hL : Sl w w.heap.size 10 A L.length c (nsCells L)) (hm : ∀ x ∈ L, x.nm.size ≤ maxLen) :
    Calls Tryz.prog 84 #[.slice A L.length c, .func (.func 85) #[] #[]] w fun e w' => e = .returned (.bool (namedB (L.map fun x => x.nm.data.toList))) ∧ Below w.heap.size w w' := by
  have hl : L.length ≤ maxLen := Nat.le_trans hL.cap hL.max
  unfold maxLen at hl
  have hmm := @run_makeMap Tryz.prog
  obtain ⟨N, hN⟩ : ∃ N, L.map (fun x => x.nm.data.toList) = N := ⟨_, rfl⟩
  have hNl : N.length = L.length := by rw [← hN]; simp
  have HN := Lib.hid hN
  have HNL := Lib.hid hNl
  have HL := Lib.hid hL
  have HM := Lib.hid hm
  rw [hN]
  clear hN hL hm hNl
  go_enter Tryz.func84, Tryz.ntmps84
  go_wp2_with fail
  clear hmm
  go_loopw [12] (fun i wr => nmRel N w i wr) (fun i _ => L.length - (intOf i).toNat)
  case atStart => exact ⟨0, 0, Nat.zero_le _, rfl, rfl, QapK.made _ _ w, (by repeat (first | exact Below.refl _ _ | assumption | refine below_drewN ?_ _ | refine Below.drew ?_ | refine Below.setCell ?_ (by first | omega | (simp; done) | (simp; omega)) _ | refine Below.alloc ?_ (by first | omega | (simp; done) | (simp; omega)) _))⟩
  case round =>
    obtain ⟨k, ct, hk, rfl, hN0, hmap, hbw⟩ := hrel
    have hkl : k ≤ L.length := by rw [← HNL.out]; exact hk
    have HMP := Lib.hid hmap
    have HBW := Lib.hid hbw
    have hsz := hbw.size
    have hmb := hmap.lt
    clear hk hmap hbw
    by_cases hlt : k < L.length
    · obtain ⟨tb, tof9, rfl, htb, c0, c1, c2, c3, c4, c5, c6, c7, c8, c9⟩ := (HL.out.below HBW.out).ns_at hlt
      have hnm := HM.out _ (List.getElem_mem hlt)
      have hNk : k < N.length := by rw [HNL.out]; exact hlt
      have HE : Hid (N[k]'(by rw [HNL.out]; exact hlt) = L[k].nm.data.toList) := by show _ = _; simp [← HN.out]
      have HG : Hid (N.getD k [] = L[k].nm.data.toList) := by show _ = _; rw [← HE.out]; simp [hNk]
      obtain ⟨X, hX⟩ : ∃ X, L[k] = X := ⟨_, rfl⟩
      have hkN : Hid (k < N.length) := hNk
      rw [hX] at c0 c1 c2 c3 c4 c5 c6 c7 c8 c9 hnm HE HG
      have hlt' : (k : Int) < (L.length : Int) := by omega
      have htb2 : tb < wr.heap.size := by omega
      clear hX hNk
      go_wp2_with fail
      refine (nameF_ X _).mono ?_
      rintro e w2 ⟨rfl, hb⟩
      have HB2 : Hid (Below wr.heap.size wr w2) := (show Below wr.heap.size wr _ from (by repeat (first | exact Below.refl _ _ | assumption | refine below_drewN ?_ _ | refine Below.drew ?_ | refine Below.setCell ?_ (by first | omega | (simp; done) | (simp; omega)) _ | refine Below.alloc ?_ (by first | omega | (simp; done) | (simp; omega)) _))).trans (hb.mono (by simp))
      have HM2 : Hid (QapS w2 w.heap.size k ct (seenF N k)) := HMP.out.below HB2.out
      clear hb
      have hlk := HM2.out.look keyLawQ Tryz.underlying186 (zeroBool w2) (WideMaps.keyOf_string_mk Tryz.underlying9 hnm)
      rw [seenF_get] at hlk
      obtain ⟨cc, hcc⟩ : ∃ cc, (N.take k).contains X.nm.data.toList = cc := ⟨_, rfl⟩
      obtain ⟨nb, hnb⟩ : ∃ nb, isName X.nm.data.toList = nb := ⟨_, rfl⟩
      rw [hcc] at hlk
      have hst : nameStep N k = (nb && !cc) := by unfold nameStep; rw [HG.out, hcc, hnb]
      have HST := Lib.hid hst
      have HNB := Lib.hid hnb
      clear hcc hnb hst
      cases nb with
      | false =>
        have HR : Hid (namedB N = false) := namedB_no hkN.out (by rw [HST.out]; rfl)
        go_wp2_with (go_at_call 122; refine (isName_ _ _ hnm).mono ?_; rintro e w' ⟨rfl, rfl⟩; rw [HNB.out])
        go_ret
        exact ⟨ret_bool HR.out.symm, HBW.out.trans (HB2.out.mono hsz)⟩
      | true =>
        cases cc with
        | true =>
          have HR : Hid (namedB N = false) := namedB_no hkN.out (by rw [HST.out]; rfl)
          go_wp2_with (go_at_call 122; refine (isName_ _ _ hnm).mono ?_; rintro e w' ⟨rfl, rfl⟩; rw [HNB.out])
          go_ret
          exact ⟨ret_bool HR.out.symm, HBW.out.trans (HB2.out.mono hsz)⟩
        | false =>
          have HR : Hid (namedN N (k + 1) = true) := by show _ = _; rw [namedN_succ, hN0.out, HST.out]; rfl
          go_wp2_with (first | (go_at_call 122; refine (isName_ _ _ hnm).mono ?_; rintro e w' ⟨rfl, rfl⟩; rw [HNB.out]) | (refine wpList_mapUpdate_nm rfl _ _ _ rfl w.heap.size k ct (seenF N k) HM2.out (by unfold maxLen; omega) rfl X.nm hnm rfl (.bool true) rfl ?_; intro w3 hm3 hg3))
          go_roundw
          case rel => exact ⟨k + 1, _, hkN.out, by go_num, HR.out, (by rw [seenF_succ hkN.out HE.out]; exact hm3), (HBW.out.trans (HB2.out.mono hsz)).grown hg3 (by have := HB2.out.size; omega) (fun j e => by cases e; exact Nat.le_refl _)⟩
          case measure => simp [intOf]; omega
    · obtain rfl : k = L.length := by omega
      have HR : Hid (namedB N = true) := by show namedN N N.length = true; rw [HNL.out]; exact hN0.out
      go_wp2_with fail
      go_ret
      exact ⟨ret_bool HR.out.symm, HBW.out⟩
end Go.Proofs.YtpphnnijnnfngaaGreatDoor
