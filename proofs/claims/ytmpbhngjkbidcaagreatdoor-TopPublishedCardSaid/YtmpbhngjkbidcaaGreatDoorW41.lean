/-
  The walk of the program's Parse.
-/
import Derived.Test.YtmpbhngjkbidcaaGreatDoorW33
import Derived.Test.YtmpbhngjkbidcaaGreatDoorW25
import Derived.Test.YtmpbhngjkbidcaaGreatDoorW34
import Derived.Test.YtmpbhngjkbidcaaGreatDoorW14
import Derived.Test.YtmpbhngjkbidcaaGreatDoorW35
namespace Go.Proofs.YtmpbhngjkbidcaaGreatDoor
open Go.RowKit Al
attribute [local go_sem] Oper.semAt_some

/-- The world is ready for a text that is read. -/
structure RdyP (w : World) : Prop where
  rdy : Rdy w
  ml : ∃ m : Int, w.cell? ⟨2, 0, none⟩ = some (.int .i64 m)
  es : ∃ ev, w.cell? ⟨0, 0, none⟩ = some ev ∧ (ev = .nilIface ∨ ∃ te pe, ev = .iface te pe)
  er : ∃ ev, w.cell? ⟨1, 0, none⟩ = some ev ∧ (ev = .nilIface ∨ ∃ te pe, ev = .iface te pe)
theorem own_grown {A B : World} {base e sz n m : Nat} {v : Value} {xs : List Value} {row : Option Nat} (h : A.ownsRow base e sz v n xs) (hg : A.grownBy B row) (hr : ∀ r, row = some r → r < base ∨ ∃ o : Obj, A.heap[r]? = some o ∧ o.isCells = false) (_hm : m = m) : B.ownsRow base e sz v n xs := by
  refine h.kept hg ?_
  rcases h.2 with ⟨rfl, _⟩ | ⟨g, cap, cur, rfl, hb, hgb, _⟩
  · exact .inl rfl
  · refine .inr fun e' => ?_
    have e2 : some g = row := by rw [← e']; rfl
    rcases hr g e2.symm with h1 | ⟨o, ho, hc⟩
    · omega
    · rw [hgb] at ho; cases ho; cases hc
theorem RdyP.below {w w' : World} (h : RdyP w) (hb : Below w.heap.size w w') : RdyP w' := by
  have h8 := h.rdy.big
  refine ⟨h.rdy.below hb, ?_, ?_, ?_⟩
  · obtain ⟨m, hm⟩ := h.ml
    exact ⟨m, (hb.cell (p := ⟨2, 0, none⟩) (by simp; omega)).trans hm⟩
  · obtain ⟨m, hm, h2⟩ := h.es
    exact ⟨m, (hb.cell (p := ⟨0, 0, none⟩) (by simp; omega)).trans hm, h2⟩
  · obtain ⟨m, hm, h2⟩ := h.er
    exact ⟨m, (hb.cell (p := ⟨1, 0, none⟩) (by simp; omega)).trans hm, h2⟩
theorem below_grown {w A B : World} {row : Option Nat} (h : Below w.heap.size w A) (hg : A.grownBy B row) (hr : ∀ r, row = some r → w.heap.size ≤ r) : Below w.heap.size w B := h.grown hg h.size (fun k e => hr k e)
theorem trim_ (x y : ByteArray) (hx : x.size ≤ 65536) (hy : y = ⟨(Lib.trimSuffix x.data.toList [10]).toArray⟩) (w : World) : Calls Tryz.prog 56 #[.string x, .string ⟨#[10]⟩] w fun e w' => e = .returned (.string y) ∧ w = w' := by
  subst hy
  exact (Tryz.strings_TrimSuffix x ⟨#[10]⟩ w (by omega)).mono fun _ _ ⟨he, hw⟩ => ⟨he, hw.symm⟩
theorem split_ (y : ByteArray) (ps : List ByteArray) (hy : y.size ≤ 65536) (hps : ps = Lib.splitB ⟨#[32]⟩ 0 (Lib.countB y ⟨#[32]⟩) y) (w : World) (hm : ∃ m : Int, w.cell? ⟨2, 0, none⟩ = some (.int .i64 m)) :
    Calls Tryz.prog 55 #[.string y, .string ⟨#[32]⟩] w fun e w' => e = .returned (.slice (some ⟨w.heap.size, 0, none⟩) ps.length ps.length) ∧ w.alloc (.cells (strs ps).toArray 9) = w' := by
  obtain ⟨m, hm⟩ := hm
  subst hps
  have hl := Lib.splitB_all ⟨#[32]⟩ (by decide) 0 _ y rfl
  rw [hl]
  exact (Tryz.strings_Split y ⟨#[32]⟩ m w (by omega) hm (by decide)).mono fun _ _ ⟨he, hw⟩ => ⟨he, hw.symm⟩
theorem trim_short (x : List UInt8) : (Lib.trimSuffix x [10]).length ≤ x.length := by
  unfold Lib.trimSuffix
  split
  · rw [List.length_take]; omega
  · exact Nat.le_refl _
theorem cut_ne (c : UInt8) (l : List UInt8) : cutAt c l ≠ [] := by
  cases l with
  | nil => intro h; cases h
  | cons b r =>
    unfold cutAt
    split
    · intro h; cases h
    · split <;> (intro h; cases h)
/-- The error of a word that is no number. -/
def SomeErr (W : World) (e : Ending) (w' : World) : Prop := ∃ (n : Int) (t : TypeId) (p : Value), e = .returned (.tuple #[.int .i64 n, .iface t p]) ∧ Below W.heap.size W w'
theorem atoi_no (t : ByteArray) (ht : t.size ≤ 65536) (h : ∀ n, Lib.atoiAll t.data.toList ≠ .ok n) (w : World) (hr : RdyP w) : Calls Tryz.prog 57 #[.string t] w (SomeErr w) := by
  cases ha : Lib.atoiAll t.data.toList
  · exact absurd ha (h _)
  · obtain ⟨ev, h1, h2⟩ := hr.es
    exact (Tryz.strconv_Atoi_syntax t (by omega) ha ev w h1 h2).mono fun _ _ ⟨N, he, _, _, hb⟩ => ⟨_, _, _, he, hb⟩
  · obtain ⟨ev, h1, h2⟩ := hr.er
    exact (Tryz.strconv_Atoi_range t (by omega) ha ev w h1 h2).mono fun _ _ ⟨N, he, _, _, hb⟩ => ⟨_, _, _, he, hb⟩
theorem atoi_yes (t : ByteArray) (ht : t.size ≤ 65536) (n : Int) (h : Lib.atoiAll t.data.toList = .ok n) (w : World) : Calls Tryz.prog 57 #[.string t] w fun e w' => e = .returned (.tuple #[.int .i64 n, .nilIface]) ∧ Below w.heap.size w w' :=
  (Tryz.strconv_Atoi_ok t (by omega) n h w).mono fun _ _ ⟨he, hw⟩ => ⟨he, by
    rcases hw with rfl | ⟨u, rfl⟩
    · exact Below.refl _ _
    · exact Lib.bytesWorld_below w _ u⟩
/-- What the loop over the words keeps. -/
def PwL (sk : Nat) (ps : List ByteArray) (Wp : World) (nums i : Value) (wr : World) : Prop :=
  ∃ (k n : Nat) (A : Option Addr) (c : Nat) (ns : List Int), k ≤ ps.length ∧ n ≤ k ∧ Hid (ns.length = n) ∧ i = .int .i64 k ∧ nums = .slice A n c ∧ Hid (numsOf (((lst ps).take k).drop sk) = some ns) ∧ Hid (wr.ownsRow Wp.heap.size 3 1 (.slice A n c) n (ints ns)) ∧ Hid (Below Wp.heap.size Wp wr)
theorem take_skip {ps : List ByteArray} {k sk : Nat} (h : k < sk) : ((lst ps).take (k + 1)).drop sk = ((lst ps).take k).drop sk := by
  rw [List.drop_eq_nil_of_le (by rw [List.length_take]; omega), List.drop_eq_nil_of_le (by rw [List.length_take]; omega)]
theorem take_more {ps : List ByteArray} {k sk : Nat} (h : sk ≤ k) (hk : k < ps.length) : ((lst ps).take (k + 1)).drop sk = ((lst ps).take k).drop sk ++ [ps[k].data.toList] := by
  have h1 : k < (lst ps).length := by rw [lst_len]; exact hk
  have h2 : (lst ps)[k] = ps[k].data.toList := by simp [lst]
  rw [List.take_succ_eq_append_getElem h1, h2, List.drop_append_of_le_length (by rw [List.length_take, lst_len]; omega)]
theorem word_none {ps : List ByteArray} {k sk : Nat} (h : sk ≤ k) (hk : k < ps.length) (hn : ∀ n, Lib.atoiAll ps[k].data.toList ≠ .ok n) : numsOf ((lst ps).drop sk) = none := by
  have h1 : k < (lst ps).length := by rw [lst_len]; exact hk
  have h2 : (lst ps)[k] = ps[k].data.toList := by simp [lst]
  have e : (lst ps).drop sk = ((lst ps).take k).drop sk ++ ps[k].data.toList :: (lst ps).drop (k + 1) := by
    conv => lhs; rw [← List.take_append_drop k (lst ps), List.drop_eq_getElem_cons h1, h2]
    rw [List.drop_append_of_le_length (by rw [List.length_take, lst_len]; omega)]
  rw [e]
  exact numsOf_app hn
theorem skipN_of (h : List UInt8) : (h = sAlert ∧ skipN h = 2) ∨ (h ≠ sAlert ∧ skipN h = 1) := by
  unfold skipN
  by_cases e : h = sAlert
  · exact .inl ⟨e, by rw [if_pos e]⟩
  · exact .inr ⟨e, by rw [if_neg e]⟩
/-- What Parse keeps between two lines: the alert so far in its box, the result's box, and all that was there. -/
def PaI (w : World) (pre : List Lin) (W : World) : Prop :=
  ∃ (x : Alr) (C : Option Addr) (c : Nat), foldA (lnL pre) = some x ∧ Bxa W (w.heap.size + 1) (w.heap.size + 1) x C c ∧ W.ownsRow (w.heap.size + 3) 3 1 (.slice C x.cells.length c) x.cells.length (ints x.cells) ∧ Bxa W w.heap.size w.heap.size Al.zero none 0 ∧ Below w.heap.size w W ∧ w.heap.size + 3 ≤ W.heap.size ∧ x.ev.size ≤ 65536
/-- A line has said 'no more'. -/
def PaX (w : World) (cd : Code) (pre : List Lin) (W : World) : Prop :=
  cd = .exit 0 ∧ ∃ (L : List Lin) (l : Lin) (x : Alr) (C : Option Addr) (c : Nat), pre = L ++ [l] ∧ foldA (lnL L) = some x ∧ lineA x l.1.data.toList = none ∧ Bxa W (w.heap.size + 1) (w.heap.size + 1) x C c ∧ W.ownsRow (w.heap.size + 3) 3 1 (.slice C x.cells.length c) x.cells.length (ints x.cells) ∧ Bxa W w.heap.size w.heap.size Al.zero none 0 ∧ Below w.heap.size w W ∧ x.ev.size ≤ 65536

theorem paI_step {w A B : World} {pre : List Lin} {row : Option Nat} (h : PaI w pre A) (hg : A.grownBy B row) (hr : ∀ r, row = some r → w.heap.size + 2 ≤ r ∧ (r < w.heap.size + 3 ∨ ∃ o : Obj, A.heap[r]? = some o ∧ o.isCells = false)) : PaI w pre B := by
  obtain ⟨x, C, c, h1, h2, h3, h4, h5, h6, h7⟩ := h
  refine ⟨x, C, c, h1, h2.block (hg.block _ h2.lt fun e => ?_), own_grown (m := 0) h3 hg (fun r e => (hr r e).2) rfl, h4.block (hg.block _ h4.lt fun e => ?_), below_grown h5 hg (fun r e => by have := (hr r e).1; omega), Nat.le_trans h6 hg.size, h7⟩
  · have := (hr _ e.symm).1; omega
  · have := (hr _ e.symm).1; omega
theorem paI_own (w : World) (B : Nat) (hB : w.heap.size + 3 ≤ B) : OwnFrom B (PaI w) := fun pre A A' row h hg hr => paI_step h hg fun r e => ⟨by have := (hr r e).1; omega, .inr (hr r e).2⟩
theorem paI_box (w : World) (pre : List Lin) (A B : World) (h : PaI w pre A) (hg : A.grownBy B (some (w.heap.size + 1 + 1))) : PaI w pre B := paI_step h hg fun r e => by cases e; exact ⟨Nat.le_refl _, .inl (by omega)⟩
theorem paX_own (w : World) (cd : Code) (B : Nat) (hB : w.heap.size + 3 ≤ B) : OwnFrom B (PaX w cd) := by
  rintro pre A A' row ⟨e0, L, l, x, C, c, e1, e2, e3, h2, h3, h4, h5, h7⟩ hg hr
  refine ⟨e0, L, l, x, C, c, e1, e2, e3, h2.block (hg.block _ h2.lt fun e => ?_), own_grown (m := 0) h3 hg (fun r e => .inr (hr r e).2) rfl, h4.block (hg.block _ h4.lt fun e => ?_), below_grown h5 hg (fun r e => by have := (hr r e).1; omega), h7⟩
  · have := (hr _ e.symm).1; omega
  · have := (hr _ e.symm).1; omega

theorem own_cell {w : World} {base e g n c j : Nat} {xs : List Value} {u : Value} (h : w.ownsRow base e 1 (.slice (some ⟨g, 0, none⟩) n c) n xs) (hu : xs[j]? = some u) : w.cell? ⟨g, j, none⟩ = some u := by
  have := World.ownsRow.cells h (g := g) rfl j u hu
  rwa [Addr.add_lit, Nat.zero_add] at this
theorem own_head {w : World} {base e g n m c : Nat} {xs ys : List Value} (h : w.ownsRow base e 1 (.slice (some ⟨g, 0, none⟩) m c) m (xs ++ ys)) (hn : xs.length = n) : w.ownsRow base e 1 (.slice (some ⟨g, 0, none⟩) n c) n xs := by
  subst hn
  have hlen := h.1
  rw [List.length_append, Nat.mul_one] at hlen
  rcases h.2 with ⟨hv, _⟩ | ⟨g', cap, cur, hv, hb, hg, hnc, hcm, hcs, ht⟩
  · cases hv
  · cases hv
    refine ⟨by rw [Nat.mul_one], .inr ⟨_, _, cur, rfl, hb, hg, by omega, hcm, hcs, ?_⟩⟩
    have h2 := congrArg (List.take xs.length) ht
    rw [List.take_take, List.take_left, Nat.min_eq_left (by omega)] at h2
    rw [Nat.mul_one]
    exact h2
theorem own_set {w : World} {base e sz n g : Nat} {v : Value} {xs : List Value} (h : w.ownsRow base e sz v n xs) (hg : g < base) (j : Nat) (u : Value) : (w.setCell ⟨g, j, none⟩ u).ownsRow base e sz v n xs := ownsRow_setCell_below h hg u
theorem kp_set {W A : World} {g : Nat} (h : Kp (fun k => k = g) W A) (j : Nat) (v : Value) : Kp (fun k => k = g) W (A.setCell ⟨g, j, none⟩ v) := h.setCell (.inl rfl) v
theorem kp_drew {F : Nat → Prop} {W A : World} (h : Kp F W A) : Kp F W A.drew := ⟨h.os, h.tape, h.output, h.size, h.block⟩
theorem two_0 (ns : List Int) : (ints ns ++ [Value.int .i64 0, .int .i64 0])[0]? = some (.int .i64 (ns[0]?.getD 0)) := by cases ns <;> rfl
theorem two_1 (ns : List Int) : (ints ns ++ [Value.int .i64 0, .int .i64 0])[1]? = some (.int .i64 (ns[1]?.getD 0)) := by
  rcases ns with _ | ⟨a, _ | ⟨b, r⟩⟩ <;> rfl
theorem setb6 {W : World} {B g : Nat} {x : Alr} {C : Option Addr} {c : Nat} (h : Bxa W B g x C c) (ns : List Int) (gA capA : Nat) : Bxa (W.setCell ⟨g, 6, none⟩ (.slice (some ⟨gA, 0, none⟩) ns.length capA)) B g { x with cells := ns } (some ⟨gA, 0, none⟩) capA := h.set6 ns rfl
theorem deferred_kept {D b : Nat} : ∀ {vs : List Value} {o : Nat} {w : World}, w.heap[D]? = some (.deferred (some [])) → b ≠ D → (w.setCells b o vs).heap[D]? = some (.deferred (some []))
  | [], _, _, h, _ => h
  | u :: r, o, w, h, hb => deferred_kept (vs := r) ((Below.heap_setCell w ⟨b, o, none⟩ u D (fun e => hb e.symm)).trans h) hb
theorem below_mark {n D : Nat} {a w : World} {o : Obj} (h : Below n a w) (hD : n ≤ D) : Below n a (w.putObj D o) :=
  ⟨h.os, h.tape, h.output, by simpa using h.size, fun k hk => (World.putObj_heap_other (by omega)).trans (h.block k hk)⟩
/-- The end of a function with a range over a function whose result is written to a block of cells. -/
theorem finCellsM {F : Fence} {n : Nat} {P : Program} {fn : Func} {R : Ending → World → Prop} {tmps : Array Value} {w : World} {D : Nat} (b : Nat) (vs : List Value) (v : Value) (hD : w.heap[D]? = some (.deferred (some []))) (hb : b ≠ D)
    (hres : ∀ W : World, (∀ j (hj : j < vs.length), W.cell? ⟨b, j, none⟩ = some vs[j]) → (results fn tmps).run P W = .ok v W)
    (his : ∀ j, j < vs.length → (w.cell? ⟨b, j, none⟩).isSome = true) (hR : R (.returned v) ((w.setCells b 0 vs).putObj D (.deferred none))) : bodyPostM F n P fn R .ret { tmps := tmps, defers := [{ target := .collected D, args := #[] }] } (w.setCells b 0 vs) := by
  have hsame : ∀ (vs : List Value) (o : Nat) (w : World), w.heap[D]? = some (.deferred (some [])) → (w.setCells b o vs).heap[D]? = some (.deferred (some [])) := by
    intro vs
    induction vs with
    | nil => exact fun _ _ h => h
    | cons u r ih => exact fun o w h => ih (o + 1) _ ((Below.heap_setCell w ⟨b, o, none⟩ u D (fun e => hb e.symm)).trans h)
  refine ⟨by simp, .inl ⟨D, _, rfl, run_takeDeferred (hsame vs 0 w hD), v, hres _ fun j hj => ?_, hR⟩⟩
  have h1 := World.cell?_setCells_in b vs 0 w (fun j hj => by rw [Nat.zero_add]; exact his j hj) j hj
  rw [Nat.zero_add] at h1
  exact (World.cell?_of_block (w := w.setCells b 0 vs) (a := ⟨b, j, none⟩) (World.putObj_heap_other hb)).trans h1
/-- What a round leaves. -/
theorem pa_end {w W W' : World} {B : Nat} {pre : List Lin} {x : Lin} {x' : Alr} {C' : Option Addr} {c' : Nat} (hW : Below w.heap.size w W) (h0 : Bxa W w.heap.size w.heap.size Al.zero none 0) (hlt : w.heap.size + 3 ≤ W.heap.size) (hB : w.heap.size + 3 ≤ B)
    (hk : Kp (fun k => k = w.heap.size + 1) W W') (hf : foldA (lnL (pre ++ [x])) = some x') (h1 : Bxa W' (w.heap.size + 1) (w.heap.size + 1) x' C' c') (hev : x'.ev.size ≤ 65536) (ho : W'.ownsRow (w.heap.size + 3) 3 1 (.slice C' x'.cells.length c') x'.cells.length (ints x'.cells)) :
    KeepsFrom B W W' ∧ KeepB (w.heap.size + 1 + 1) W W' ∧ PaI w (pre ++ [x]) W' :=
  ⟨⟨hk.size, fun k _ hk2 h _ => (hk.block k (Array.getElem?_eq_some_iff.1 h).1 (by omega)).trans h⟩, ⟨hk.size, hk.block _ (by omega) (by omega)⟩, x', C', c', hf, h1, ho, h0.block (hk.block _ (by omega) (by omega)), hW.trans (hk.below (by omega) (fun i e => by omega)), Nat.le_trans hlt hk.size, hev⟩
theorem nine_eq {x y : Alr} (h0 : x.ev = y.ev) (h1 : x.ver = y.ver) (h2 : x.tm = y.tm) (h3 : x.n = y.n) (h4 : x.of = y.of) (h5 : x.grid = y.grid) (h6 : x.cells = y.cells) (h7 : x.wd = y.wd) (h8 : x.before = y.before) : x = y := by
  cases x; cases y; simp_all

set_option maxRecDepth 100000 in
set_option maxHeartbeats 4000000 in
theorem Parse_t (s : ByteArray) (w : World) (hs : s.size ≤ 65536) (hr : RdyP w) : Calls Tryz.prog 23 #[.string s] w (OwnT w.heap.size (parseR parseA s.data.toList).1 (parseR parseA s.data.toList).2 w) := by
  have HR := Lib.hid hr
  have hs1 : ¬ (65536 : Int) < (s.size : Int) := by omega
  clear hr
  refine (callsIn_wide (n := 6)).1 ?_
  refine callsIn_of_wp_marks Tryz.func23 rfl trivial ?_ rfl
  simp only [Tryz.ntmps23, List.size_toArray, List.length_cons, List.length_nil, Nat.reduceAdd, Nat.reduceSub, Array.replicate_succ, Array.replicate_zero, List.push_toArray, List.append_toArray, List.nil_append, List.cons_append]
  gi_wp2_with fail
  refine wpIn_scope_straight ?_
  gi_wp2_with fail
  refine wpIn_label ?_
  gi_wp2_with (refine ⟨trivial, ?_⟩; gi_at_call 54; refine (callsIn_wide.2 (Lines_ s _)).mono ?_; rintro e w' ⟨rfl, rfl⟩)
  obtain ⟨W0, hW0⟩ : ∃ W0, ((w.alloc (.cells (Al.zero.val none 0).cells 55)).alloc (.cells (Al.zero.val none 0).cells 55)).alloc (.cells #[.string s] 9) = W0 := ⟨_, rfl⟩
  have zW : W0.heap.size = w.heap.size + 3 := by rw [← hW0]; simp
  have hB0 : Below w.heap.size w W0 := by rw [← hW0]; (repeat (first | exact Below.refl _ _ | assumption | refine below_drewN ?_ _ | refine Below.drew ?_ | refine Below.setCell ?_ (by first | omega | (simp; done) | (simp; omega)) _ | refine Below.alloc ?_ (by first | omega | (simp; done) | (simp; omega)) _))
  have hbx : Boxed W0 (w.heap.size + 2) 9 (.string s) := by
    have h := Boxed.new ((w.alloc (.cells (Al.zero.val none 0).cells 55)).alloc (.cells (Al.zero.val none 0).cells 55)) 9 (.string s)
    rw [hW0] at h
    simpa using h
  have hx0 : Bxa W0 w.heap.size w.heap.size Al.zero none 0 := by
    refine (Bxa.new (w0 := w) (w := w) (Nat.le_refl _)).block ?_
    rw [← hW0]
    rw [Below.heap_alloc _ _ _ (by simp; omega), Below.heap_alloc _ _ _ (by simp)]
  have hx1 : Bxa W0 (w.heap.size + 1) (w.heap.size + 1) Al.zero none 0 := by
    have h := (Bxa.new (w0 := w.alloc (.cells (Al.zero.val none 0).cells 55)) (w := w.alloc (.cells (Al.zero.val none 0).cells 55)) (Nat.le_refl _))
    rw [World.size_alloc] at h
    refine h.block ?_
    rw [← hW0]
    rw [Below.heap_alloc _ _ _ (by simp)]
  show Code.wpIn _ _ _ _ _ _ (((w.alloc (.cells (Al.zero.val none 0).cells 55)).alloc (.cells (Al.zero.val none 0).cells 55)).alloc (.cells #[.string s] 9))
  rw [hW0]
  clear hW0
  have HZ := Lib.hid zW
  have HB0 := Lib.hid hB0
  refine wpIn_rangeFunc_box (w := W0) rfl (by decide) (gf := 98) (lb := #[.pointer (some ⟨w.heap.size + 1 + 1, 0, none⟩)]) rfl trivial (enters_of Tryz.func98 (by kernel_rfl) rfl) (lines_box 5 (by decide) s (w.heap.size + 1 + 1) W0 hbx hs) (by rw [zW]; omega) (fun _ => rfl)
    (PaI w) (PaX w) ?hI ?hIx ?hIb ⟨Al.zero, none, 0, rfl, hx1, World.ownsRow_nil _ _ _ _, hx0, hB0, by omega, by decide⟩
    (fun x a' W => a' = { tmps := #[.string s, undef, .pointer (some ⟨w.heap.size, 0, none⟩), .int .i64 0, .pointer (some ⟨w.heap.size + 1, 0, none⟩), .string x.1, undef, undef, undef, undef, undef, undef, .string s, .int .i64 s.size, .bool (decide ((65536 : Int) < (s.size : Int))), undef, .string s, .func (.func 98) #[] #[.pointer (some ⟨w.heap.size + 1 + 1, 0, none⟩)], .string x.1, undef, undef, undef, undef, undef, undef, undef, undef, undef, undef, undef, undef, undef, undef, undef, undef, undef, undef, undef, undef, undef, undef, undef, undef, undef, undef, undef, undef, undef, undef, undef, undef, undef, undef, undef, undef, undef, undef, undef, undef, undef, undef, undef, undef, undef, undef, undef, undef, undef, undef, undef, undef, undef, undef, undef, undef, undef, undef, undef, undef, undef, undef, undef, undef, undef, undef, undef, undef, undef, undef, undef, undef, undef, undef, undef, undef, undef, undef, undef, undef, undef, undef, undef, undef, undef, undef, undef, undef, undef, undef, undef, undef, undef, undef, undef, undef, undef, undef, undef, undef, undef, undef, undef], defers := [] }) (fun x a' _ A B row h _ _ => h) ?assign ?body ?done ?stop
  case hI => exact paI_own w W0.heap.size (by rw [zW]; exact Nat.le_refl _)
  case hIx => exact fun cd => paX_own w cd W0.heap.size (by rw [zW]; exact Nat.le_refl _)
  case hIb => exact fun pre A B h hg => paI_box w pre A B h hg
  case assign =>
    intro l pre x W K hi hK
    gi_wp2
    exact hK _ _ (KeepsFrom.refl _ _) (KeepB.refl _ _) hi rfl
  case body =>
    rintro l pre x a' W hl _ ⟨y0, C, c0, hf, hb1, hown, hb0, hbw, hws, hey⟩ rfl
    have HRW := Lib.hid (HR.out.below hbw)
    have HWS := Lib.hid hws
    have HEY := Lib.hid hey
    have HF := Lib.hid hf
    have H1 := Lib.hid hb1
    have HO := Lib.hid hown
    have H0 := Lib.hid hb0
    have HW := Lib.hid hbw
    have hxs := x.2
    obtain ⟨y, hy⟩ : ∃ y : ByteArray, y = ⟨(Lib.trimSuffix x.1.data.toList [10]).toArray⟩ := ⟨_, rfl⟩
    obtain ⟨ps, hps⟩ : ∃ ps, ps = Lib.splitB ⟨#[32]⟩ 0 (Lib.countB y ⟨#[32]⟩) y := ⟨_, rfl⟩
    have hys : y.size ≤ 65536 := by
      have h1 := trim_short x.1.data.toList
      have h2 : y.size = (Lib.trimSuffix x.1.data.toList [10]).length := by rw [hy]; rfl
      have h3 : x.1.data.toList.length = x.1.size := Array.length_toList
      omega
    have HPS : Hid (lst ps = cutAt 32 (Lib.trimSuffix x.1.data.toList [10])) := by
      show _ = _
      rw [hps, split_cut _ y rfl, hy]
    have hpl : 0 < ps.length := by
      have h1 := cut_ne 32 (Lib.trimSuffix x.1.data.toList [10])
      rw [← HPS.out] at h1
      have h2 := List.length_pos_iff.2 h1
      rwa [lst_len] at h2
    have HY := Lib.hid hy
    have HP := Lib.hid hps
    clear hf hb1 hown hb0 hbw hws hey hs1 hB0 hbx hx0 hx1 zW hy hps
    gi_wp2_with (first
      | (refine ⟨trivial, ?_⟩; gi_at_call 56; refine (CallsIn.inRound l (callsIn_wide.2 (trim_ x.1 y hxs HY.out _))).mono ?_; rintro e w1 ⟨rfl, rfl⟩)
      | (refine ⟨trivial, ?_⟩; gi_at_call 55; refine (CallsIn.inRound l (callsIn_wide.2 (split_ y ps hys HP.out _ HRW.out.ml))).mono ?_; rintro e w1 ⟨rfl, rfl⟩))
    obtain ⟨j0, hj, hj0, hj1, hj2⟩ := info_parts infoInt
    obtain ⟨Wp, hWp⟩ : ∃ Wp, W.alloc (.cells (strs ps).toArray 9) = Wp := ⟨_, rfl⟩
    have hpc : ∀ j (hjl : j < ps.length), Wp.cell? ⟨W.heap.size, j, none⟩ = some (.string ps[j]) := fun j hjl => by rw [← hWp]; simp [go_sem, strs, hjl]
    have zp : Wp.heap.size = W.heap.size + 1 := by rw [← hWp]; simp
    have hbp : Below W.heap.size W Wp := by rw [← hWp]; (repeat (first | exact Below.refl _ _ | assumption | refine below_drewN ?_ _ | refine Below.drew ?_ | refine Below.setCell ?_ (by first | omega | (simp; done) | (simp; omega)) _ | refine Below.alloc ?_ (by first | omega | (simp; done) | (simp; omega)) _))
    have hpm : ps.length ≤ 65537 := by
      have h1 := cutAt_len 32 (Lib.trimSuffix x.1.data.toList [10])
      rw [← HPS.out, lst_len] at h1
      have h2 := trim_short x.1.data.toList
      have h3 : x.1.data.toList.length = x.1.size := Array.length_toList
      omega
    have hpsz : ∀ p ∈ ps, p.size ≤ 65536 := fun p hp => by
      have h1 : p.data.toList ∈ lst ps := List.mem_map.2 ⟨p, hp, rfl⟩
      rw [HPS.out] at h1
      have h2 := cutAt_short 32 _ _ h1
      have h3 := trim_short x.1.data.toList
      have h4 : x.1.data.toList.length = x.1.size := Array.length_toList
      have h5 : p.data.toList.length = p.size := Array.length_toList
      omega
    rw [hWp]
    have HPC := Lib.hid hpc
    have HBP := Lib.hid hbp
    have HZP := Lib.hid zp
    have HPZ := Lib.hid hpsz
    obtain ⟨sk, hsk⟩ : ∃ sk, sk = skipN ((lst ps).headD []) := ⟨_, rfl⟩
    have h0d : (lst ps).headD [] = ps[0].data.toList := by
      cases ps with
      | nil => simp at hpl
      | cons p r => rfl
    have hsk2 : (ps[0].data.toList = sAlert ∧ sk = 2) ∨ (ps[0].data.toList ≠ sAlert ∧ sk = 1) := by
      rw [hsk, h0d]
      exact skipN_of _
    have HSK := Lib.hid hsk
    have HH := Lib.hid h0d
    have HS2 := Lib.hid hsk2
    clear hWp hpc hbp zp hpsz hsk h0d hsk2
    gi_loopw [7, 8, 9, 10, 11, 24] (fun nums _ _ _ _ i wr => PwL sk ps Wp nums i wr) (fun _ _ _ _ _ i _ => ps.length - (Go.RowKit.intOf i).toNat)
    case atStart => exact ⟨0, 0, none, 0, [], Nat.zero_le _, Nat.le_refl _, Lib.hid rfl, rfl, rfl, Lib.hid (by simp [numsOf]), Lib.hid (World.ownsRow_nil _ _ _ _), Lib.hid (Below.refl _ _)⟩
    case round =>
      obtain ⟨k, n, A, c, ns, hk, hnk, HN, rfl, rfl, HC, HOW, HBW⟩ := hrel
      have hszw := HBW.out.size
      by_cases hlt : k < ps.length
      · have i1 : (k : Int) < (ps.length : Int) := by omega
        have i0 : (0 : Int) ≤ (k : Int) := by omega
        have zb : W.heap.size < Wp.heap.size := by have := HZP.out; omega
        have hck := (HBW.out.cell (p := ⟨W.heap.size, k, none⟩) zb).trans (HPC.out k hlt)
        have hc0 := (HBW.out.cell (p := ⟨W.heap.size, 0, none⟩) zb).trans (HPC.out 0 hpl)
        have HT := Lib.hid (take_more (ps := ps) (k := k) (sk := sk) · hlt)
        have HT0 := Lib.hid (take_skip (ps := ps) (k := k) (sk := sk))
        have HTN := Lib.hid (word_none (ps := ps) (k := k) (sk := sk) · hlt)
        have htk := HPZ.out ps[k] (List.getElem_mem hlt)
        obtain ⟨t, ht⟩ : ∃ t, t = ps[k] := ⟨_, rfl⟩
        rw [← ht] at hck HT HTN htk
        obtain ⟨h0, hh0⟩ : ∃ h0, h0 = ps[0] := ⟨_, rfl⟩
        rw [← hh0] at hc0 HS2
        clear ht
        have HH0 := Lib.hid hh0
        clear hh0
        have HS0 : Hid ((h0.toList == [97, 108, 101, 114, 116]) = decide (h0.data.toList = sAlert)) := by
          show _ = _
          rw [Lib.toList_data, Bool.eq_iff_iff, beq_iff_eq, decide_eq_true_iff]
          rfl
        by_cases hs : k < sk
        · have hrel2 : PwL sk ps Wp (.slice A n c) (.int .i64 ((k : Int) + 1)) wr := ⟨k + 1, n, A, c, ns, by omega, by omega, HN, by go_num, rfl, Lib.hid (by rw [HT0.out hs]; exact HC.out), HOW, HBW⟩
          have HR2 := Lib.hid hrel2
          by_cases hk0 : k = 0
          · have e0 : ((k : Int) == 0) = true := by simp; omega
            clear hk0 hs hrel2
            gi_wp2_with fail
            go_roundw
            case rel => exact HR2.out
            case measure => simp [Go.RowKit.intOf]; omega
          · have e0 : ((k : Int) == 0) = false := by simp; omega
            have e1 : ((k : Int) == 1) = true := by
              rcases HS2.out with ⟨_, h2⟩ | ⟨_, h2⟩ <;> (simp; omega)
            have e2 : (h0.toList == [97, 108, 101, 114, 116]) = true := by
              rw [HS0.out]
              rcases HS2.out with ⟨h1, h2⟩ | ⟨_, h2⟩
              · simpa using h1
              · omega
            clear hk0 hs hrel2
            gi_wp2_with fail
            go_roundw
            case rel => exact HR2.out
            case measure => simp [Go.RowKit.intOf]; omega
        · have hks : sk ≤ k := by omega
          have HKS := Lib.hid hks
          have e0 : ((k : Int) == 0) = false := by
            rcases HS2.out with ⟨_, h2⟩ | ⟨_, h2⟩ <;> (simp; omega)
          have e12 : ((k : Int) == 1) = true → (h0.toList == [97, 108, 101, 114, 116]) = false := fun e => by
            rw [HS0.out]
            rcases HS2.out with ⟨_, h2⟩ | ⟨h1, _⟩
            · have : (k : Int) = 1 := by simpa using e
              omega
            · simpa using h1
          have HE := Lib.hid e12
          clear hks hs e12
          by_cases ha : ∃ v, Lib.atoiAll t.data.toList = .ok v
          · obtain ⟨v, hv⟩ := ha
            have HV := Lib.hid hv
            clear hv
            cases hk1 : ((k : Int) == 1) with
            | true =>
              have e2 := HE.out hk1
              gi_wp2_with (first
                | (refine ⟨trivial, ?_⟩; gi_at_call 57; refine (CallsIn.inRound l (callsIn_wide.2 (atoi_yes t htk v HV.out wr))).mono ?_; rintro e wA ⟨rfl, hbA⟩; have HBA := Lib.hid hbA; have sA := hbA.size; clear hbA)
                | (gi_at_builtin; refine wpListIn_append_new _ rfl _ _ 32 rfl Wp.heap.size 3 j0 (.int .i64 0) 1 8 Tryz.underlying32 hj hj0 hj1 hj2 rfl (by decide) (.slice A n c) n (ints ns) rfl (own_below (own_below HOW.out (Nat.le_refl _) HBA.out) (Nat.le_refl _) (by (repeat (first | exact Below.refl _ _ | assumption | refine below_drewN ?_ _ | refine Below.drew ?_ | refine Below.setCell ?_ (by first | omega | (simp; done) | (simp; omega)) _ | refine Below.alloc ?_ (by first | omega | (simp; done) | (simp; omega)) _)))) _ 1 1 [.int .i64 v] rfl rfl (World.news_of_block (heap_alloc_new wA _)) (fun u hu => by rw [List.mem_singleton.1 hu]; rfl) (by decide) (by unfold maxLen; omega) (by omega) (by simp; omega) ?_; intro gA capA wB hownA hgA hltA hbgA))
              go_roundw
              case rel =>
                refine ⟨k + 1, n + 1, some ⟨gA, 0, none⟩, capA, ns ++ [v], by omega, by omega, Lib.hid (by rw [List.length_append, HN.out]; rfl), by go_num, rfl, Lib.hid ?_, Lib.hid ?_, Lib.hid ?_⟩
                · rw [HT.out HKS.out]
                  exact numsOf_snoc HC.out HV.out
                · have e : ints (ns ++ [v]) = ints ns ++ [.int .i64 v] := by simp [ints]
                  rw [e]
                  exact hownA
                · exact ((HBW.out.trans (HBA.out.mono hszw)).alloc (by omega) _).grown hgA (by simp; omega) (fun g hg => own_base HOW.out hg)
              case measure => simp [Go.RowKit.intOf]; omega
            | false =>
              gi_wp2_with (first
                | (refine ⟨trivial, ?_⟩; gi_at_call 57; refine (CallsIn.inRound l (callsIn_wide.2 (atoi_yes t htk v HV.out wr))).mono ?_; rintro e wA ⟨rfl, hbA⟩; have HBA := Lib.hid hbA; have sA := hbA.size; clear hbA)
                | (gi_at_builtin; refine wpListIn_append_new _ rfl _ _ 32 rfl Wp.heap.size 3 j0 (.int .i64 0) 1 8 Tryz.underlying32 hj hj0 hj1 hj2 rfl (by decide) (.slice A n c) n (ints ns) rfl (own_below (own_below HOW.out (Nat.le_refl _) HBA.out) (Nat.le_refl _) (by (repeat (first | exact Below.refl _ _ | assumption | refine below_drewN ?_ _ | refine Below.drew ?_ | refine Below.setCell ?_ (by first | omega | (simp; done) | (simp; omega)) _ | refine Below.alloc ?_ (by first | omega | (simp; done) | (simp; omega)) _)))) _ 1 1 [.int .i64 v] rfl rfl (World.news_of_block (heap_alloc_new wA _)) (fun u hu => by rw [List.mem_singleton.1 hu]; rfl) (by decide) (by unfold maxLen; omega) (by omega) (by simp; omega) ?_; intro gA capA wB hownA hgA hltA hbgA))
              go_roundw
              case rel =>
                refine ⟨k + 1, n + 1, some ⟨gA, 0, none⟩, capA, ns ++ [v], by omega, by omega, Lib.hid (by rw [List.length_append, HN.out]; rfl), by go_num, rfl, Lib.hid ?_, Lib.hid ?_, Lib.hid ?_⟩
                · rw [HT.out HKS.out]
                  exact numsOf_snoc HC.out HV.out
                · have e : ints (ns ++ [v]) = ints ns ++ [.int .i64 v] := by simp [ints]
                  rw [e]
                  exact hownA
                · exact ((HBW.out.trans (HBA.out.mono hszw)).alloc (by omega) _).grown hgA (by simp; omega) (fun g hg => own_base HOW.out hg)
              case measure => simp [Go.RowKit.intOf]; omega
          · have HV : Hid (∀ v, Lib.atoiAll t.data.toList ≠ .ok v) := fun v hv => ha ⟨v, hv⟩
            clear ha
            cases hk1 : ((k : Int) == 1) with
            | true =>
              have e2 := HE.out hk1
              gi_wp2_with (refine ⟨trivial, ?_⟩; gi_at_call 57; refine (CallsIn.inRound l (callsIn_wide.2 (atoi_no t htk HV.out wr (HRW.out.below (HBP.out.trans (HBW.out.mono (by have := HZP.out; omega))))))).mono ?_; rintro e wA ⟨v, et, ep, rfl, hbA⟩; have HBA := Lib.hid hbA; clear hbA)
              have hX : Below W.heap.size W wA := (HBP.out.trans (HBW.out.mono (by have := HZP.out; omega))).trans (HBA.out.mono (by have := HZP.out; omega))
              refine ⟨KeepsFrom.of_below hX, rfl, pre, x, y0, C, c0, rfl, HF.out, ?_, H1.out.below hX, own_below HO.out (Nat.le_refl _) hX, H0.out.below hX, HW.out.trans (hX.mono HW.out.size), HEY.out⟩
              show lineA y0 x.1.data.toList = none
              unfold lineA lineP
              rw [← HPS.out, ← HSK.out, HTN.out HKS.out HV.out]
              rfl
            | false =>
              gi_wp2_with (refine ⟨trivial, ?_⟩; gi_at_call 57; refine (CallsIn.inRound l (callsIn_wide.2 (atoi_no t htk HV.out wr (HRW.out.below (HBP.out.trans (HBW.out.mono (by have := HZP.out; omega))))))).mono ?_; rintro e wA ⟨v, et, ep, rfl, hbA⟩; have HBA := Lib.hid hbA; clear hbA)
              have hX : Below W.heap.size W wA := (HBP.out.trans (HBW.out.mono (by have := HZP.out; omega))).trans (HBA.out.mono (by have := HZP.out; omega))
              refine ⟨KeepsFrom.of_below hX, rfl, pre, x, y0, C, c0, rfl, HF.out, ?_, H1.out.below hX, own_below HO.out (Nat.le_refl _) hX, H0.out.below hX, HW.out.trans (hX.mono HW.out.size), HEY.out⟩
              show lineA y0 x.1.data.toList = none
              unfold lineA lineP
              rw [← HPS.out, ← HSK.out, HTN.out HKS.out HV.out]
              rfl
      · obtain rfl : k = ps.length := by omega
        have i1 : ¬ ((ps.length : Nat) : Int) < (ps.length : Int) := by omega
        have hns : numsOf ((lst ps).drop sk) = some ns := by
          have h1 := HC.out
          rwa [← lst_len, List.take_length] at h1
        obtain ⟨h0, hh0⟩ : ∃ h0, h0 = ps[0] := ⟨_, rfl⟩
        have hla : lineA y0 x.1.data.toList = some (stepA y0 h0.data.toList (lst ps) ns) := by
          unfold lineA lineP
          rw [← HPS.out, ← HSK.out, hns, HH.out, hh0]
          rfl
        have hfo : foldA (lnL (pre ++ [x])) = some (stepA y0 h0.data.toList (lst ps) ns) := by
          rw [lnL_snoc, foldA_snoc, HF.out]
          exact hla
        have HFO := Lib.hid hfo
        have zb : W.heap.size < Wp.heap.size := by have := HZP.out; omega
        have hq0 := HPC.out 0 hpl
        rw [← hh0] at hq0
        have HQ0 := Lib.hid hq0
        have HQ1 : Hid (∀ h : 1 < ps.length, Wp.cell? ⟨W.heap.size, 1, none⟩ = some (.string ps[1])) := fun h => HPC.out 1 h
        clear hns hla hfo hq0 hh0
        have hsn : ∀ l : List UInt8, (h0.toList == l) = decide (h0.data.toList = l) := fun l => by rw [Lib.toList_data, Bool.eq_iff_iff, beq_iff_eq, decide_eq_true_iff]
        have hcap : n + 2 ≤ 65540 := by omega
        obtain ⟨hd, hhd⟩ : ∃ hd, hd = h0.data.toList := ⟨_, rfl⟩
        rw [← hhd] at hsn HFO
        have HD := Lib.hid hhd
        have HSN := Lib.hid hsn
        have hlb : w.heap.size + 1 < W.heap.size := by have := HWS.out; omega
        clear hsn hhd
        by_cases htime : hd = sTime
        · have HEQ := Lib.hid htime
          have talert : (h0.toList == [97, 108, 101, 114, 116]) = false := by rw [HSN.out, HEQ.out]; rfl
          have ttime : (h0.toList == [116, 105, 109, 101]) = true := by rw [HSN.out, HEQ.out]; rfl
          have hst : stepA y0 hd (lst ps) ns = { y0 with tm := ns.getD 0 0 } := by rw [htime]; rfl
          rw [hst] at HFO
          clear hst htime
          gi_wp2_with (gi_at_builtin; refine wpListIn_append_new _ rfl _ _ 32 rfl Wp.heap.size 3 j0 (.int .i64 0) 1 8 Tryz.underlying32 hj hj0 hj1 hj2 rfl (by decide) (.slice A n c) n (ints ns) rfl (own_below HOW.out (Nat.le_refl _) (by (repeat (first | exact Below.refl _ _ | assumption | refine below_drewN ?_ _ | refine Below.drew ?_ | refine Below.setCell ?_ (by first | omega | (simp; done) | (simp; omega)) _ | refine Below.alloc ?_ (by first | omega | (simp; done) | (simp; omega)) _)))) _ 2 2 [.int .i64 0, .int .i64 0] rfl rfl (World.news_of_block (heap_alloc_new wr _)) (by decide) (by decide) (by unfold maxLen; omega) (by omega) (by simp; omega) ?_; intro gA capA wB hownA hgA hltA hbgA; have HDB := Lib.hid (Below.grown (HBW.out.alloc (by omega) _) hgA (by simp; omega) (fun g hg => own_base HOW.out hg)); have HWB := Lib.hid (HBP.out.trans (HDB.out.mono (by omega))); have hc0 := (HDB.out.cell (p := ⟨W.heap.size, 0, none⟩) zb).trans HQ0.out; have hm0 := own_cell hownA (two_0 ns); have hm1 := own_cell hownA (two_1 ns); have HXB := Lib.hid (H1.out.below HWB.out); have HOB := Lib.hid hownA; have c2 := HXB.out.cs 2 _ rfl; have f2 := HXB.out.fr 2; clear hownA hgA)
          exact pa_end HW.out H0.out HWS.out (by have := HZ.out; omega) (kp_set (Kp.of_below HWB.out) _ _) (by rw [HFO.out]) (Bxa.set (y := { y0 with tm := ns.getD 0 0 }) (D := C) (d := c0) HXB.out 2 (.int .i64 (ns.getD 0 0)) (by decide) (nineC (.inr ⟨by decide, rfl⟩) (.inr ⟨by decide, rfl⟩) (.inl ⟨rfl, rfl⟩) (.inr ⟨by decide, rfl⟩) (.inr ⟨by decide, rfl⟩) (.inr ⟨by decide, rfl⟩) (.inr ⟨by decide, rfl⟩) (.inr ⟨by decide, rfl⟩) (.inr ⟨by decide, rfl⟩))) HEY.out (ownsRow_setCell_below (own_below HO.out (Nat.le_refl _) HWB.out) (by simp) _)
        by_cases hchance : hd = sChance
        · have HEQ := Lib.hid hchance
          have talert : (h0.toList == [97, 108, 101, 114, 116]) = false := by rw [HSN.out, HEQ.out]; rfl
          have ttime : (h0.toList == [116, 105, 109, 101]) = false := by rw [HSN.out, HEQ.out]; rfl
          have tchance : (h0.toList == [99, 104, 97, 110, 99, 101]) = true := by rw [HSN.out, HEQ.out]; rfl
          have hst : stepA y0 hd (lst ps) ns = { y0 with n := ns.getD 0 0, of := ns.getD 1 0 } := by rw [hchance]; rfl
          rw [hst] at HFO
          clear hst hchance
          gi_wp2_with (gi_at_builtin; refine wpListIn_append_new _ rfl _ _ 32 rfl Wp.heap.size 3 j0 (.int .i64 0) 1 8 Tryz.underlying32 hj hj0 hj1 hj2 rfl (by decide) (.slice A n c) n (ints ns) rfl (own_below HOW.out (Nat.le_refl _) (by (repeat (first | exact Below.refl _ _ | assumption | refine below_drewN ?_ _ | refine Below.drew ?_ | refine Below.setCell ?_ (by first | omega | (simp; done) | (simp; omega)) _ | refine Below.alloc ?_ (by first | omega | (simp; done) | (simp; omega)) _)))) _ 2 2 [.int .i64 0, .int .i64 0] rfl rfl (World.news_of_block (heap_alloc_new wr _)) (by decide) (by decide) (by unfold maxLen; omega) (by omega) (by simp; omega) ?_; intro gA capA wB hownA hgA hltA hbgA; have HDB := Lib.hid (Below.grown (HBW.out.alloc (by omega) _) hgA (by simp; omega) (fun g hg => own_base HOW.out hg)); have HWB := Lib.hid (HBP.out.trans (HDB.out.mono (by omega))); have hc0 := (HDB.out.cell (p := ⟨W.heap.size, 0, none⟩) zb).trans HQ0.out; have hm0 := own_cell hownA (two_0 ns); have hm1 := own_cell hownA (two_1 ns); have HXB := Lib.hid (H1.out.below HWB.out); have HOB := Lib.hid hownA; have c3 := HXB.out.cs 3 _ rfl; have f3 := HXB.out.fr 3; have c4 := HXB.out.cs 4 _ rfl; have f4 := HXB.out.fr 4; clear hownA hgA)
          have hmx : Tryz.prog.follows .mixedOrders = true := by kernel_rfl
          gi_region_with_o fail
          all_goals
            gi_wp2
            refine pa_end HW.out H0.out HWS.out (by have := HZ.out; omega) (kp_drew (kp_set (kp_set (Kp.of_below HWB.out) _ _) _ _)) (HFO.out.trans rfl) (Bxa.block (HXB.out.set34 _ _ rfl) rfl) HEY.out ?_
            exact own_below (ownsRow_setCell_below (ownsRow_setCell_below (own_below HO.out (Nat.le_refl _) HWB.out) (by simp) _) (by simp) _) (Nat.le_refl _) (Below.refl _ _).drew
        by_cases hgrid : hd = sGrid
        · have HEQ := Lib.hid hgrid
          have talert : (h0.toList == [97, 108, 101, 114, 116]) = false := by rw [HSN.out, HEQ.out]; rfl
          have ttime : (h0.toList == [116, 105, 109, 101]) = false := by rw [HSN.out, HEQ.out]; rfl
          have tchance : (h0.toList == [99, 104, 97, 110, 99, 101]) = false := by rw [HSN.out, HEQ.out]; rfl
          have tgrid : (h0.toList == [103, 114, 105, 100]) = true := by rw [HSN.out, HEQ.out]; rfl
          have hst : stepA y0 hd (lst ps) ns = { y0 with grid := ns.getD 0 0 } := by rw [hgrid]; rfl
          rw [hst] at HFO
          clear hst hgrid
          gi_wp2_with (gi_at_builtin; refine wpListIn_append_new _ rfl _ _ 32 rfl Wp.heap.size 3 j0 (.int .i64 0) 1 8 Tryz.underlying32 hj hj0 hj1 hj2 rfl (by decide) (.slice A n c) n (ints ns) rfl (own_below HOW.out (Nat.le_refl _) (by (repeat (first | exact Below.refl _ _ | assumption | refine below_drewN ?_ _ | refine Below.drew ?_ | refine Below.setCell ?_ (by first | omega | (simp; done) | (simp; omega)) _ | refine Below.alloc ?_ (by first | omega | (simp; done) | (simp; omega)) _)))) _ 2 2 [.int .i64 0, .int .i64 0] rfl rfl (World.news_of_block (heap_alloc_new wr _)) (by decide) (by decide) (by unfold maxLen; omega) (by omega) (by simp; omega) ?_; intro gA capA wB hownA hgA hltA hbgA; have HDB := Lib.hid (Below.grown (HBW.out.alloc (by omega) _) hgA (by simp; omega) (fun g hg => own_base HOW.out hg)); have HWB := Lib.hid (HBP.out.trans (HDB.out.mono (by omega))); have hc0 := (HDB.out.cell (p := ⟨W.heap.size, 0, none⟩) zb).trans HQ0.out; have hm0 := own_cell hownA (two_0 ns); have hm1 := own_cell hownA (two_1 ns); have HXB := Lib.hid (H1.out.below HWB.out); have HOB := Lib.hid hownA; have c5 := HXB.out.cs 5 _ rfl; have f5 := HXB.out.fr 5; clear hownA hgA)
          exact pa_end HW.out H0.out HWS.out (by have := HZ.out; omega) (kp_set (Kp.of_below HWB.out) _ _) (by rw [HFO.out]) (Bxa.set (y := { y0 with grid := ns.getD 0 0 }) (D := C) (d := c0) HXB.out 5 (.int .i64 (ns.getD 0 0)) (by decide) (nineC (.inr ⟨by decide, rfl⟩) (.inr ⟨by decide, rfl⟩) (.inr ⟨by decide, rfl⟩) (.inr ⟨by decide, rfl⟩) (.inr ⟨by decide, rfl⟩) (.inl ⟨rfl, rfl⟩) (.inr ⟨by decide, rfl⟩) (.inr ⟨by decide, rfl⟩) (.inr ⟨by decide, rfl⟩))) HEY.out (ownsRow_setCell_below (own_below HO.out (Nat.le_refl _) HWB.out) (by simp) _)
        by_cases hcells : hd = sCells
        · have HEQ := Lib.hid hcells
          have talert : (h0.toList == [97, 108, 101, 114, 116]) = false := by rw [HSN.out, HEQ.out]; rfl
          have ttime : (h0.toList == [116, 105, 109, 101]) = false := by rw [HSN.out, HEQ.out]; rfl
          have tchance : (h0.toList == [99, 104, 97, 110, 99, 101]) = false := by rw [HSN.out, HEQ.out]; rfl
          have tgrid : (h0.toList == [103, 114, 105, 100]) = false := by rw [HSN.out, HEQ.out]; rfl
          have tcells : (h0.toList == [99, 101, 108, 108, 115]) = true := by rw [HSN.out, HEQ.out]; rfl
          have hst : stepA y0 hd (lst ps) ns = { y0 with cells := ns } := by rw [hcells]; rfl
          rw [hst] at HFO
          clear hst hcells
          gi_wp2_with (gi_at_builtin; refine wpListIn_append_new _ rfl _ _ 32 rfl Wp.heap.size 3 j0 (.int .i64 0) 1 8 Tryz.underlying32 hj hj0 hj1 hj2 rfl (by decide) (.slice A n c) n (ints ns) rfl (own_below HOW.out (Nat.le_refl _) (by (repeat (first | exact Below.refl _ _ | assumption | refine below_drewN ?_ _ | refine Below.drew ?_ | refine Below.setCell ?_ (by first | omega | (simp; done) | (simp; omega)) _ | refine Below.alloc ?_ (by first | omega | (simp; done) | (simp; omega)) _)))) _ 2 2 [.int .i64 0, .int .i64 0] rfl rfl (World.news_of_block (heap_alloc_new wr _)) (by decide) (by decide) (by unfold maxLen; omega) (by omega) (by simp; omega) ?_; intro gA capA wB hownA hgA hltA hbgA; have HDB := Lib.hid (Below.grown (HBW.out.alloc (by omega) _) hgA (by simp; omega) (fun g hg => own_base HOW.out hg)); have HWB := Lib.hid (HBP.out.trans (HDB.out.mono (by omega))); have hc0 := (HDB.out.cell (p := ⟨W.heap.size, 0, none⟩) zb).trans HQ0.out; have hm0 := own_cell hownA (two_0 ns); have hm1 := own_cell hownA (two_1 ns); have HXB := Lib.hid (H1.out.below HWB.out); have HOB := Lib.hid hownA; have c6 := HXB.out.cs 6 _ rfl; have f6 := HXB.out.fr 6; have hcp := (Sl.of_own hownA).cap; have hcn : n ≤ capA := (by omega); clear hownA hgA)
          have hb6 := setb6 HXB.out ns gA capA
          rw [HN.out] at hb6
          refine pa_end HW.out H0.out HWS.out (by have := HZ.out; omega) (kp_set (Kp.of_below HWB.out) _ _) (by rw [HFO.out]) hb6 HEY.out ?_
          show World.ownsRow _ _ _ _ (.slice _ ns.length _) ns.length (ints ns)
          rw [HN.out]
          exact ownsRow_setCell_below (own_more (own_head HOB.out (by rw [ints_len, HN.out])) (by have := HZP.out; omega)) (by simp) _
        by_cases hwithdrawn : hd = sWithdrawn
        · have HEQ := Lib.hid hwithdrawn
          have talert : (h0.toList == [97, 108, 101, 114, 116]) = false := by rw [HSN.out, HEQ.out]; rfl
          have ttime : (h0.toList == [116, 105, 109, 101]) = false := by rw [HSN.out, HEQ.out]; rfl
          have tchance : (h0.toList == [99, 104, 97, 110, 99, 101]) = false := by rw [HSN.out, HEQ.out]; rfl
          have tgrid : (h0.toList == [103, 114, 105, 100]) = false := by rw [HSN.out, HEQ.out]; rfl
          have tcells : (h0.toList == [99, 101, 108, 108, 115]) = false := by rw [HSN.out, HEQ.out]; rfl
          have twithdrawn : (h0.toList == [119, 105, 116, 104, 100, 114, 97, 119, 110]) = true := by rw [HSN.out, HEQ.out]; rfl
          have hst : stepA y0 hd (lst ps) ns = { y0 with wd := true } := by rw [hwithdrawn]; rfl
          rw [hst] at HFO
          clear hst hwithdrawn
          gi_wp2_with (gi_at_builtin; refine wpListIn_append_new _ rfl _ _ 32 rfl Wp.heap.size 3 j0 (.int .i64 0) 1 8 Tryz.underlying32 hj hj0 hj1 hj2 rfl (by decide) (.slice A n c) n (ints ns) rfl (own_below HOW.out (Nat.le_refl _) (by (repeat (first | exact Below.refl _ _ | assumption | refine below_drewN ?_ _ | refine Below.drew ?_ | refine Below.setCell ?_ (by first | omega | (simp; done) | (simp; omega)) _ | refine Below.alloc ?_ (by first | omega | (simp; done) | (simp; omega)) _)))) _ 2 2 [.int .i64 0, .int .i64 0] rfl rfl (World.news_of_block (heap_alloc_new wr _)) (by decide) (by decide) (by unfold maxLen; omega) (by omega) (by simp; omega) ?_; intro gA capA wB hownA hgA hltA hbgA; have HDB := Lib.hid (Below.grown (HBW.out.alloc (by omega) _) hgA (by simp; omega) (fun g hg => own_base HOW.out hg)); have HWB := Lib.hid (HBP.out.trans (HDB.out.mono (by omega))); have hc0 := (HDB.out.cell (p := ⟨W.heap.size, 0, none⟩) zb).trans HQ0.out; have hm0 := own_cell hownA (two_0 ns); have hm1 := own_cell hownA (two_1 ns); have HXB := Lib.hid (H1.out.below HWB.out); have HOB := Lib.hid hownA; have c7 := HXB.out.cs 7 _ rfl; have f7 := HXB.out.fr 7; clear hownA hgA)
          exact pa_end HW.out H0.out HWS.out (by have := HZ.out; omega) (kp_set (Kp.of_below HWB.out) _ _) (by rw [HFO.out]) (Bxa.set (y := { y0 with wd := true }) (D := C) (d := c0) HXB.out 7 (.bool true) (by decide) (nineC (.inr ⟨by decide, rfl⟩) (.inr ⟨by decide, rfl⟩) (.inr ⟨by decide, rfl⟩) (.inr ⟨by decide, rfl⟩) (.inr ⟨by decide, rfl⟩) (.inr ⟨by decide, rfl⟩) (.inr ⟨by decide, rfl⟩) (.inl ⟨rfl, rfl⟩) (.inr ⟨by decide, rfl⟩))) HEY.out (ownsRow_setCell_below (own_below HO.out (Nat.le_refl _) HWB.out) (by simp) _)
        by_cases hbefore : hd = sBefore
        · have HEQ := Lib.hid hbefore
          have talert : (h0.toList == [97, 108, 101, 114, 116]) = false := by rw [HSN.out, HEQ.out]; rfl
          have ttime : (h0.toList == [116, 105, 109, 101]) = false := by rw [HSN.out, HEQ.out]; rfl
          have tchance : (h0.toList == [99, 104, 97, 110, 99, 101]) = false := by rw [HSN.out, HEQ.out]; rfl
          have tgrid : (h0.toList == [103, 114, 105, 100]) = false := by rw [HSN.out, HEQ.out]; rfl
          have tcells : (h0.toList == [99, 101, 108, 108, 115]) = false := by rw [HSN.out, HEQ.out]; rfl
          have twithdrawn : (h0.toList == [119, 105, 116, 104, 100, 114, 97, 119, 110]) = false := by rw [HSN.out, HEQ.out]; rfl
          have tbefore : (h0.toList == [98, 101, 102, 111, 114, 101]) = true := by rw [HSN.out, HEQ.out]; rfl
          have hst : stepA y0 hd (lst ps) ns = { y0 with before := ns.getD 0 0 } := by rw [hbefore]; rfl
          rw [hst] at HFO
          clear hst hbefore
          gi_wp2_with (gi_at_builtin; refine wpListIn_append_new _ rfl _ _ 32 rfl Wp.heap.size 3 j0 (.int .i64 0) 1 8 Tryz.underlying32 hj hj0 hj1 hj2 rfl (by decide) (.slice A n c) n (ints ns) rfl (own_below HOW.out (Nat.le_refl _) (by (repeat (first | exact Below.refl _ _ | assumption | refine below_drewN ?_ _ | refine Below.drew ?_ | refine Below.setCell ?_ (by first | omega | (simp; done) | (simp; omega)) _ | refine Below.alloc ?_ (by first | omega | (simp; done) | (simp; omega)) _)))) _ 2 2 [.int .i64 0, .int .i64 0] rfl rfl (World.news_of_block (heap_alloc_new wr _)) (by decide) (by decide) (by unfold maxLen; omega) (by omega) (by simp; omega) ?_; intro gA capA wB hownA hgA hltA hbgA; have HDB := Lib.hid (Below.grown (HBW.out.alloc (by omega) _) hgA (by simp; omega) (fun g hg => own_base HOW.out hg)); have HWB := Lib.hid (HBP.out.trans (HDB.out.mono (by omega))); have hc0 := (HDB.out.cell (p := ⟨W.heap.size, 0, none⟩) zb).trans HQ0.out; have hm0 := own_cell hownA (two_0 ns); have hm1 := own_cell hownA (two_1 ns); have HXB := Lib.hid (H1.out.below HWB.out); have HOB := Lib.hid hownA; have c8 := HXB.out.cs 8 _ rfl; have f8 := HXB.out.fr 8; clear hownA hgA)
          exact pa_end HW.out H0.out HWS.out (by have := HZ.out; omega) (kp_set (Kp.of_below HWB.out) _ _) (by rw [HFO.out]) (Bxa.set (y := { y0 with before := ns.getD 0 0 }) (D := C) (d := c0) HXB.out 8 (.int .i64 (ns.getD 0 0)) (by decide) (nineC (.inr ⟨by decide, rfl⟩) (.inr ⟨by decide, rfl⟩) (.inr ⟨by decide, rfl⟩) (.inr ⟨by decide, rfl⟩) (.inr ⟨by decide, rfl⟩) (.inr ⟨by decide, rfl⟩) (.inr ⟨by decide, rfl⟩) (.inr ⟨by decide, rfl⟩) (.inl ⟨rfl, rfl⟩))) HEY.out (ownsRow_setCell_below (own_below HO.out (Nat.le_refl _) HWB.out) (by simp) _)
        by_cases halert : hd = sAlert
        · have HEQ := Lib.hid halert
          have talert : (h0.toList == [97, 108, 101, 114, 116]) = true := by rw [HSN.out, HEQ.out]; rfl
          by_cases hl1 : 1 < ps.length
          · have l1 : (1 : Int) < (ps.length : Int) := by omega
            have hq1 := HQ1.out hl1
            have hst : stepA y0 hd (lst ps) ns = { { y0 with ver := ns.getD 0 0 } with ev := ps[1] } := by
              rw [halert]
              unfold stepA
              rw [if_pos rfl, lst_get hl1]
            rw [hst] at HFO
            clear hst halert
            gi_wp2_with (gi_at_builtin; refine wpListIn_append_new _ rfl _ _ 32 rfl Wp.heap.size 3 j0 (.int .i64 0) 1 8 Tryz.underlying32 hj hj0 hj1 hj2 rfl (by decide) (.slice A n c) n (ints ns) rfl (own_below HOW.out (Nat.le_refl _) (by (repeat (first | exact Below.refl _ _ | assumption | refine below_drewN ?_ _ | refine Below.drew ?_ | refine Below.setCell ?_ (by first | omega | (simp; done) | (simp; omega)) _ | refine Below.alloc ?_ (by first | omega | (simp; done) | (simp; omega)) _)))) _ 2 2 [.int .i64 0, .int .i64 0] rfl rfl (World.news_of_block (heap_alloc_new wr _)) (by decide) (by decide) (by unfold maxLen; omega) (by omega) (by simp; omega) ?_; intro gA capA wB hownA hgA hltA hbgA; have HDB := Lib.hid (Below.grown (HBW.out.alloc (by omega) _) hgA (by simp; omega) (fun g hg => own_base HOW.out hg)); have HWB := Lib.hid (HBP.out.trans (HDB.out.mono (by omega))); have hc0 := (HDB.out.cell (p := ⟨W.heap.size, 0, none⟩) zb).trans HQ0.out; have hm0 := own_cell hownA (two_0 ns); have hm1 := own_cell hownA (two_1 ns); have HXB := Lib.hid (H1.out.below HWB.out); have HOB := Lib.hid hownA; have kc0 := HXB.out.cs 0 _ rfl; have kf0 := HXB.out.fr 0; have kc1 := HXB.out.cs 1 _ rfl; have kf1 := HXB.out.fr 1; have hc1 := (HDB.out.cell (p := ⟨W.heap.size, 1, none⟩) zb).trans hq1; clear hownA hgA)
            exact pa_end HW.out H0.out HWS.out (by have := HZ.out; omega) (kp_set (kp_set (Kp.of_below HWB.out) _ _) _ _) (HFO.out.trans rfl) (Bxa.set (x := ({ y0 with ver := ns.getD 0 0 } : Alr)) (y := ({ y0 with ver := ns.getD 0 0, ev := ps[1] } : Alr)) (D := C) (d := c0) (Bxa.set (y := ({ y0 with ver := ns.getD 0 0 } : Alr)) (D := C) (d := c0) HXB.out 1 (.int .i64 (ns.getD 0 0)) (by decide) (nineC (.inr ⟨by decide, rfl⟩) (.inl ⟨rfl, rfl⟩) (.inr ⟨by decide, rfl⟩) (.inr ⟨by decide, rfl⟩) (.inr ⟨by decide, rfl⟩) (.inr ⟨by decide, rfl⟩) (.inr ⟨by decide, rfl⟩) (.inr ⟨by decide, rfl⟩) (.inr ⟨by decide, rfl⟩))) 0 (.string ps[1]) (by decide) (nineC (.inl ⟨rfl, rfl⟩) (.inr ⟨by decide, rfl⟩) (.inr ⟨by decide, rfl⟩) (.inr ⟨by decide, rfl⟩) (.inr ⟨by decide, rfl⟩) (.inr ⟨by decide, rfl⟩) (.inr ⟨by decide, rfl⟩) (.inr ⟨by decide, rfl⟩) (.inr ⟨by decide, rfl⟩))) (HPZ.out _ (List.getElem_mem hl1)) (own_set (own_set (own_below HO.out (Nat.le_refl _) HWB.out) (by omega) _ _) (by omega) _ _)
          · have l1 : ¬ (1 : Int) < (ps.length : Int) := by omega
            have hst : stepA y0 hd (lst ps) ns = { y0 with ver := ns.getD 0 0 } := by
              rw [halert]
              unfold stepA
              rw [if_pos rfl, List.getElem?_eq_none (by rw [lst_len]; omega)]
            rw [hst] at HFO
            clear hst halert
            gi_wp2_with (gi_at_builtin; refine wpListIn_append_new _ rfl _ _ 32 rfl Wp.heap.size 3 j0 (.int .i64 0) 1 8 Tryz.underlying32 hj hj0 hj1 hj2 rfl (by decide) (.slice A n c) n (ints ns) rfl (own_below HOW.out (Nat.le_refl _) (by (repeat (first | exact Below.refl _ _ | assumption | refine below_drewN ?_ _ | refine Below.drew ?_ | refine Below.setCell ?_ (by first | omega | (simp; done) | (simp; omega)) _ | refine Below.alloc ?_ (by first | omega | (simp; done) | (simp; omega)) _)))) _ 2 2 [.int .i64 0, .int .i64 0] rfl rfl (World.news_of_block (heap_alloc_new wr _)) (by decide) (by decide) (by unfold maxLen; omega) (by omega) (by simp; omega) ?_; intro gA capA wB hownA hgA hltA hbgA; have HDB := Lib.hid (Below.grown (HBW.out.alloc (by omega) _) hgA (by simp; omega) (fun g hg => own_base HOW.out hg)); have HWB := Lib.hid (HBP.out.trans (HDB.out.mono (by omega))); have hc0 := (HDB.out.cell (p := ⟨W.heap.size, 0, none⟩) zb).trans HQ0.out; have hm0 := own_cell hownA (two_0 ns); have hm1 := own_cell hownA (two_1 ns); have HXB := Lib.hid (H1.out.below HWB.out); have HOB := Lib.hid hownA; have kc1 := HXB.out.cs 1 _ rfl; have kf1 := HXB.out.fr 1; clear hownA hgA)
            exact pa_end HW.out H0.out HWS.out (by have := HZ.out; omega) (kp_set (Kp.of_below HWB.out) _ _) (by rw [HFO.out]) (Bxa.set (y := ({ y0 with ver := ns.getD 0 0 } : Alr)) (D := C) (d := c0) HXB.out 1 (.int .i64 (ns.getD 0 0)) (by decide) (nineC (.inr ⟨by decide, rfl⟩) (.inl ⟨rfl, rfl⟩) (.inr ⟨by decide, rfl⟩) (.inr ⟨by decide, rfl⟩) (.inr ⟨by decide, rfl⟩) (.inr ⟨by decide, rfl⟩) (.inr ⟨by decide, rfl⟩) (.inr ⟨by decide, rfl⟩) (.inr ⟨by decide, rfl⟩))) HEY.out (ownsRow_setCell_below (own_below HO.out (Nat.le_refl _) HWB.out) (by show w.heap.size + 1 < w.heap.size + 3; omega) _)
        have talert : (h0.toList == [97, 108, 101, 114, 116]) = false := by rw [HSN.out]; exact decide_eq_false halert
        have ttime : (h0.toList == [116, 105, 109, 101]) = false := by rw [HSN.out]; exact decide_eq_false htime
        have tchance : (h0.toList == [99, 104, 97, 110, 99, 101]) = false := by rw [HSN.out]; exact decide_eq_false hchance
        have tgrid : (h0.toList == [103, 114, 105, 100]) = false := by rw [HSN.out]; exact decide_eq_false hgrid
        have tcells : (h0.toList == [99, 101, 108, 108, 115]) = false := by rw [HSN.out]; exact decide_eq_false hcells
        have twithdrawn : (h0.toList == [119, 105, 116, 104, 100, 114, 97, 119, 110]) = false := by rw [HSN.out]; exact decide_eq_false hwithdrawn
        have tbefore : (h0.toList == [98, 101, 102, 111, 114, 101]) = false := by rw [HSN.out]; exact decide_eq_false hbefore
        have hst : stepA y0 hd (lst ps) ns = y0 := by
          unfold stepA
          rw [if_neg halert, if_neg htime, if_neg hchance, if_neg hgrid, if_neg hcells, if_neg hwithdrawn, if_neg hbefore]
        rw [hst] at HFO
        clear hst halert htime hchance hgrid hcells hwithdrawn hbefore
        gi_wp2_with (gi_at_builtin; refine wpListIn_append_new _ rfl _ _ 32 rfl Wp.heap.size 3 j0 (.int .i64 0) 1 8 Tryz.underlying32 hj hj0 hj1 hj2 rfl (by decide) (.slice A n c) n (ints ns) rfl (own_below HOW.out (Nat.le_refl _) (by (repeat (first | exact Below.refl _ _ | assumption | refine below_drewN ?_ _ | refine Below.drew ?_ | refine Below.setCell ?_ (by first | omega | (simp; done) | (simp; omega)) _ | refine Below.alloc ?_ (by first | omega | (simp; done) | (simp; omega)) _)))) _ 2 2 [.int .i64 0, .int .i64 0] rfl rfl (World.news_of_block (heap_alloc_new wr _)) (by decide) (by decide) (by unfold maxLen; omega) (by omega) (by simp; omega) ?_; intro gA capA wB hownA hgA hltA hbgA; have HDB := Lib.hid (Below.grown (HBW.out.alloc (by omega) _) hgA (by simp; omega) (fun g hg => own_base HOW.out hg)); have HWB := Lib.hid (HBP.out.trans (HDB.out.mono (by omega))); have hc0 := (HDB.out.cell (p := ⟨W.heap.size, 0, none⟩) zb).trans HQ0.out; have hm0 := own_cell hownA (two_0 ns); have hm1 := own_cell hownA (two_1 ns); have HXB := Lib.hid (H1.out.below HWB.out); have HOB := Lib.hid hownA; clear hownA hgA)
        exact pa_end HW.out H0.out HWS.out (by have := HZ.out; omega) (Kp.of_below HWB.out) HFO.out HXB.out HEY.out (own_below HO.out (Nat.le_refl _) HWB.out)
  case done =>
    rintro D xs W hD hxs ⟨x, C, c, hf, h1, hO, h0, hbw, hws, hev⟩ hK
    have hx : parseA s.data.toList = x := by
      unfold parseA
      rw [← hxs]
      exact run_all hf
    clear hf hxs
    have HPR : Hid (parseR parseA s.data.toList = if okA x ∧ textL x = s.data.toList then (x, 0) else (Al.zero, 5)) := by
      show _ = _
      unfold parseR
      rw [if_neg (by rw [Array.length_toList]; exact Nat.not_lt.2 hs), hx]
    have HIN : Hid (AIn W x C c) := ⟨Nat.le_trans hev (by decide), Sl.of_own hO⟩
    have HO2 := Lib.hid hO
    have HX2 := Lib.hid h1
    have HRB := Lib.hid h0
    have HBW := Lib.hid hbw
    have HRD := Lib.hid (HR.out.below hbw)
    have HKD := Lib.hid hK
    have hgA := h1.lt
    have hwA := h0.lt
    have hDw : w.heap.size + 3 ≤ D := by have := HZ.out; omega
    have HDL : Hid (D < W.heap.size) := (Array.getElem?_eq_some_iff.1 hK).1
    clear hx hev hO h1 h0 hbw hK hs1 hB0 hbx hx0 hx1 zW
    obtain ⟨xe, xv, xt, xn, xo, xg, xcs, xw, xb⟩ := x
    have c0 := HX2.out.cs 0 _ rfl
    have c1 := HX2.out.cs 1 _ rfl
    have c2 := HX2.out.cs 2 _ rfl
    have c3 := HX2.out.cs 3 _ rfl
    have c4 := HX2.out.cs 4 _ rfl
    have c5 := HX2.out.cs 5 _ rfl
    have c6 := HX2.out.cs 6 _ rfl
    have c7 := HX2.out.cs 7 _ rfl
    have c8 := HX2.out.cs 8 _ rfl
    cases hk : okA (⟨xe, xv, xt, xn, xo, xg, xcs, xw, xb⟩ : Alr) with
    | false =>
      have HK := Lib.hid hk
      clear hk
      have HE : Hid (parseR parseA s.data.toList = (Al.zero, 5)) := HPR.out.trans (if_neg (fun h => by rw [HK.out] at h; exact absurd h.1 (by decide)))
      gi_wp2_with (refine ⟨trivial, ?_⟩; gi_at_call 52; refine (callsIn_wide.2 (validA_is ⟨xe, xv, xt, xn, xo, xg, xcs, xw, xb⟩ C c _ false HK.out HIN.out)).mono ?_; rintro e wB ⟨rfl, hb⟩; have HBB := Lib.hid hb; have hwB : w.heap.size < wB.heap.size := Nat.lt_of_lt_of_le hwA hb.size; have r0 := (HRB.out.below HBB.out).cs 0 _ rfl; have r1 := (HRB.out.below HBB.out).cs 1 _ rfl; have r2 := (HRB.out.below HBB.out).cs 2 _ rfl; have r3 := (HRB.out.below HBB.out).cs 3 _ rfl; have r4 := (HRB.out.below HBB.out).cs 4 _ rfl; have r5 := (HRB.out.below HBB.out).cs 5 _ rfl; have r6 := (HRB.out.below HBB.out).cs 6 _ rfl; have r7 := (HRB.out.below HBB.out).cs 7 _ rfl; have r8 := (HRB.out.below HBB.out).cs 8 _ rfl; have q0 := (HRB.out.below HBB.out).fr 0; have q1 := (HRB.out.below HBB.out).fr 1; have q2 := (HRB.out.below HBB.out).fr 2; have q3 := (HRB.out.below HBB.out).fr 3; have q4 := (HRB.out.below HBB.out).fr 4; have q5 := (HRB.out.below HBB.out).fr 5; have q6 := (HRB.out.below HBB.out).fr 6; have q7 := (HRB.out.below HBB.out).fr 7; have q8 := (HRB.out.below HBB.out).fr 8; have z0 := (HBB.out.cell (p := ⟨w.heap.size + 1, 0, none⟩) hgA).trans c0; have z1 := (HBB.out.cell (p := ⟨w.heap.size + 1, 1, none⟩) hgA).trans c1; have z2 := (HBB.out.cell (p := ⟨w.heap.size + 1, 2, none⟩) hgA).trans c2; have z3 := (HBB.out.cell (p := ⟨w.heap.size + 1, 3, none⟩) hgA).trans c3; have z4 := (HBB.out.cell (p := ⟨w.heap.size + 1, 4, none⟩) hgA).trans c4; have z5 := (HBB.out.cell (p := ⟨w.heap.size + 1, 5, none⟩) hgA).trans c5; have z6 := (HBB.out.cell (p := ⟨w.heap.size + 1, 6, none⟩) hgA).trans c6; have z7 := (HBB.out.cell (p := ⟨w.heap.size + 1, 7, none⟩) hgA).trans c7; have z8 := (HBB.out.cell (p := ⟨w.heap.size + 1, 8, none⟩) hgA).trans c8; clear hb)
      refine ⟨trivial, ?_⟩
      gi_wp2_with fail
      have HKD2 : Hid (wB.heap[D]? = some (.deferred (some []))) := (HBB.out.block D HDL.out).trans HKD.out
      rw [Exit.noGoto_ret, HE.out]
      refine finCellsM (w := wB) (D := D) w.heap.size (Al.zero.lst none 0) (.tuple #[Al.zero.val none 0, .int .i64 5]) HKD2.out (by omega) ?_ ?_ (show OwnT w.heap.size Al.zero 5 w _ _ from ⟨none, 0, rfl, ?_, ?_⟩)
      · intro W hW
        have r0 := hW 0 (by simp)
        have r1 := hW 1 (by simp)
        have r2 := hW 2 (by simp)
        have r3 := hW 3 (by simp)
        have r4 := hW 4 (by simp)
        have r5 := hW 5 (by simp)
        have r6 := hW 6 (by simp)
        have r7 := hW 7 (by simp)
        have r8 := hW 8 (by simp)
        clear hW
        simp only [List.getElem_cons_zero, List.getElem_cons_succ] at r0 r1 r2 r3 r4 r5 r6 r7 r8
        simp [results, Tryz.results23, go_sem, r0, r1, r2, r3, r4, r5, r6, r7, r8]
      · refine lt9 ?_
        simp [go_sem, r0, r1, r2, r3, r4, r5, r6, r7, r8]
      · exact zero_row _ _
      · exact below_mark (D := D) (below_setCells (Nat.le_refl _) _ _ _ _ (HBW.out.trans (HBB.out.mono (by omega)))) (by omega)
    | true =>
      have HK := Lib.hid hk
      clear hk
      have hts : ∀ b : Bool, decide (textL (⟨xe, xv, xt, xn, xo, xg, xcs, xw, xb⟩ : Alr) = s.data.toList) = b → (textL (⟨xe, xv, xt, xn, xo, xg, xcs, xw, xb⟩ : Alr) == s.toList) = b := fun b hb => by
        rw [← hb, Lib.toList_data, Bool.eq_iff_iff, beq_iff_eq, decide_eq_true_iff]
      have HTS := Lib.hid hts
      clear hts
      by_cases ht : textL (⟨xe, xv, xt, xn, xo, xg, xcs, xw, xb⟩ : Alr) = s.data.toList
      · have HE : Hid (parseR parseA s.data.toList = ((⟨xe, xv, xt, xn, xo, xg, xcs, xw, xb⟩ : Alr), 0)) := HPR.out.trans (if_pos ⟨HK.out, ht⟩)
        have tq := HTS.out true (decide_eq_true ht)
        have HTT := Lib.hid ht
        clear ht
        gi_wp2_with (first
          | (refine ⟨trivial, ?_⟩; gi_at_call 52; refine (callsIn_wide.2 (validA_is ⟨xe, xv, xt, xn, xo, xg, xcs, xw, xb⟩ C c _ true HK.out HIN.out)).mono ?_; rintro e wB ⟨rfl, hb⟩; have HBB := Lib.hid hb; have hwB : w.heap.size < wB.heap.size := Nat.lt_of_lt_of_le hwA hb.size; have r0 := (HRB.out.below HBB.out).cs 0 _ rfl; have r1 := (HRB.out.below HBB.out).cs 1 _ rfl; have r2 := (HRB.out.below HBB.out).cs 2 _ rfl; have r3 := (HRB.out.below HBB.out).cs 3 _ rfl; have r4 := (HRB.out.below HBB.out).cs 4 _ rfl; have r5 := (HRB.out.below HBB.out).cs 5 _ rfl; have r6 := (HRB.out.below HBB.out).cs 6 _ rfl; have r7 := (HRB.out.below HBB.out).cs 7 _ rfl; have r8 := (HRB.out.below HBB.out).cs 8 _ rfl; have q0 := (HRB.out.below HBB.out).fr 0; have q1 := (HRB.out.below HBB.out).fr 1; have q2 := (HRB.out.below HBB.out).fr 2; have q3 := (HRB.out.below HBB.out).fr 3; have q4 := (HRB.out.below HBB.out).fr 4; have q5 := (HRB.out.below HBB.out).fr 5; have q6 := (HRB.out.below HBB.out).fr 6; have q7 := (HRB.out.below HBB.out).fr 7; have q8 := (HRB.out.below HBB.out).fr 8; have z0 := (HBB.out.cell (p := ⟨w.heap.size + 1, 0, none⟩) hgA).trans c0; have z1 := (HBB.out.cell (p := ⟨w.heap.size + 1, 1, none⟩) hgA).trans c1; have z2 := (HBB.out.cell (p := ⟨w.heap.size + 1, 2, none⟩) hgA).trans c2; have z3 := (HBB.out.cell (p := ⟨w.heap.size + 1, 3, none⟩) hgA).trans c3; have z4 := (HBB.out.cell (p := ⟨w.heap.size + 1, 4, none⟩) hgA).trans c4; have z5 := (HBB.out.cell (p := ⟨w.heap.size + 1, 5, none⟩) hgA).trans c5; have z6 := (HBB.out.cell (p := ⟨w.heap.size + 1, 6, none⟩) hgA).trans c6; have z7 := (HBB.out.cell (p := ⟨w.heap.size + 1, 7, none⟩) hgA).trans c7; have z8 := (HBB.out.cell (p := ⟨w.heap.size + 1, 8, none⟩) hgA).trans c8; clear hb)
          | (refine ⟨trivial, ?_⟩; gi_at_call 53; refine (callsIn_wide.2 (text_ ⟨xe, xv, xt, xn, xo, xg, xcs, xw, xb⟩ C c wB.heap.size _ (okA_good HK.out) ((HIN.out.below HBB.out).sl) (Nat.le_refl _) ((HRD.out.rdy.below HBB.out).tab) ((HRD.out.rdy.below HBB.out).big))).mono ?_; rintro e wC ⟨rfl, hb2⟩; have HBC := Lib.hid (HBB.out.trans (hb2.mono HBB.out.size)); have hwC : w.heap.size < wC.heap.size := Nat.lt_of_lt_of_le hwB hb2.size; clear hb2; have r0 := (HRB.out.below HBC.out).cs 0 _ rfl; have r1 := (HRB.out.below HBC.out).cs 1 _ rfl; have r2 := (HRB.out.below HBC.out).cs 2 _ rfl; have r3 := (HRB.out.below HBC.out).cs 3 _ rfl; have r4 := (HRB.out.below HBC.out).cs 4 _ rfl; have r5 := (HRB.out.below HBC.out).cs 5 _ rfl; have r6 := (HRB.out.below HBC.out).cs 6 _ rfl; have r7 := (HRB.out.below HBC.out).cs 7 _ rfl; have r8 := (HRB.out.below HBC.out).cs 8 _ rfl; have q0 := (HRB.out.below HBC.out).fr 0; have q1 := (HRB.out.below HBC.out).fr 1; have q2 := (HRB.out.below HBC.out).fr 2; have q3 := (HRB.out.below HBC.out).fr 3; have q4 := (HRB.out.below HBC.out).fr 4; have q5 := (HRB.out.below HBC.out).fr 5; have q6 := (HRB.out.below HBC.out).fr 6; have q7 := (HRB.out.below HBC.out).fr 7; have q8 := (HRB.out.below HBC.out).fr 8; have z0 := (HBC.out.cell (p := ⟨w.heap.size + 1, 0, none⟩) hgA).trans c0; have z1 := (HBC.out.cell (p := ⟨w.heap.size + 1, 1, none⟩) hgA).trans c1; have z2 := (HBC.out.cell (p := ⟨w.heap.size + 1, 2, none⟩) hgA).trans c2; have z3 := (HBC.out.cell (p := ⟨w.heap.size + 1, 3, none⟩) hgA).trans c3; have z4 := (HBC.out.cell (p := ⟨w.heap.size + 1, 4, none⟩) hgA).trans c4; have z5 := (HBC.out.cell (p := ⟨w.heap.size + 1, 5, none⟩) hgA).trans c5; have z6 := (HBC.out.cell (p := ⟨w.heap.size + 1, 6, none⟩) hgA).trans c6; have z7 := (HBC.out.cell (p := ⟨w.heap.size + 1, 7, none⟩) hgA).trans c7; have z8 := (HBC.out.cell (p := ⟨w.heap.size + 1, 8, none⟩) hgA).trans c8; skip))
        have HKD2 : Hid (wC.heap[D]? = some (.deferred (some []))) := (HBC.out.block D HDL.out).trans HKD.out
        rw [Exit.noGoto_ret, HE.out]
        refine finCellsM (w := wC) (D := D) w.heap.size ((⟨xe, xv, xt, xn, xo, xg, xcs, xw, xb⟩ : Alr).lst C c) (.tuple #[(⟨xe, xv, xt, xn, xo, xg, xcs, xw, xb⟩ : Alr).val C c, .int .i64 0]) HKD2.out (by omega) ?_ ?_ (show OwnT w.heap.size (⟨xe, xv, xt, xn, xo, xg, xcs, xw, xb⟩ : Alr) 0 w _ _ from ⟨C, c, rfl, ?_, ?_⟩)
        · intro W hW
          have r0 := hW 0 (by simp)
          have r1 := hW 1 (by simp)
          have r2 := hW 2 (by simp)
          have r3 := hW 3 (by simp)
          have r4 := hW 4 (by simp)
          have r5 := hW 5 (by simp)
          have r6 := hW 6 (by simp)
          have r7 := hW 7 (by simp)
          have r8 := hW 8 (by simp)
          clear hW
          simp only [List.getElem_cons_zero, List.getElem_cons_succ] at r0 r1 r2 r3 r4 r5 r6 r7 r8
          simp [results, Tryz.results23, go_sem, r0, r1, r2, r3, r4, r5, r6, r7, r8]
        · refine lt9 ?_
          simp [go_sem, r0, r1, r2, r3, r4, r5, r6, r7, r8]
        · exact own_more (ownsRow_putObj (own_setCells (base := w.heap.size + 3) (by omega) _ _ _ (own_below HO2.out (Nat.le_refl _) HBC.out)) _ (deferred_kept HKD2.out (by omega)) rfl) (by omega)
        · exact below_mark (D := D) (below_setCells (Nat.le_refl _) _ _ _ _ (HBW.out.trans (HBC.out.mono (by omega)))) (by omega)
      · have HE : Hid (parseR parseA s.data.toList = (Al.zero, 5)) := HPR.out.trans (if_neg (fun h => ht h.2))
        have tq := HTS.out false (decide_eq_false ht)
        clear ht
        gi_wp2_with (first
          | (refine ⟨trivial, ?_⟩; gi_at_call 52; refine (callsIn_wide.2 (validA_is ⟨xe, xv, xt, xn, xo, xg, xcs, xw, xb⟩ C c _ true HK.out HIN.out)).mono ?_; rintro e wB ⟨rfl, hb⟩; have HBB := Lib.hid hb; have hwB : w.heap.size < wB.heap.size := Nat.lt_of_lt_of_le hwA hb.size; have r0 := (HRB.out.below HBB.out).cs 0 _ rfl; have r1 := (HRB.out.below HBB.out).cs 1 _ rfl; have r2 := (HRB.out.below HBB.out).cs 2 _ rfl; have r3 := (HRB.out.below HBB.out).cs 3 _ rfl; have r4 := (HRB.out.below HBB.out).cs 4 _ rfl; have r5 := (HRB.out.below HBB.out).cs 5 _ rfl; have r6 := (HRB.out.below HBB.out).cs 6 _ rfl; have r7 := (HRB.out.below HBB.out).cs 7 _ rfl; have r8 := (HRB.out.below HBB.out).cs 8 _ rfl; have q0 := (HRB.out.below HBB.out).fr 0; have q1 := (HRB.out.below HBB.out).fr 1; have q2 := (HRB.out.below HBB.out).fr 2; have q3 := (HRB.out.below HBB.out).fr 3; have q4 := (HRB.out.below HBB.out).fr 4; have q5 := (HRB.out.below HBB.out).fr 5; have q6 := (HRB.out.below HBB.out).fr 6; have q7 := (HRB.out.below HBB.out).fr 7; have q8 := (HRB.out.below HBB.out).fr 8; have z0 := (HBB.out.cell (p := ⟨w.heap.size + 1, 0, none⟩) hgA).trans c0; have z1 := (HBB.out.cell (p := ⟨w.heap.size + 1, 1, none⟩) hgA).trans c1; have z2 := (HBB.out.cell (p := ⟨w.heap.size + 1, 2, none⟩) hgA).trans c2; have z3 := (HBB.out.cell (p := ⟨w.heap.size + 1, 3, none⟩) hgA).trans c3; have z4 := (HBB.out.cell (p := ⟨w.heap.size + 1, 4, none⟩) hgA).trans c4; have z5 := (HBB.out.cell (p := ⟨w.heap.size + 1, 5, none⟩) hgA).trans c5; have z6 := (HBB.out.cell (p := ⟨w.heap.size + 1, 6, none⟩) hgA).trans c6; have z7 := (HBB.out.cell (p := ⟨w.heap.size + 1, 7, none⟩) hgA).trans c7; have z8 := (HBB.out.cell (p := ⟨w.heap.size + 1, 8, none⟩) hgA).trans c8; clear hb)
          | (refine ⟨trivial, ?_⟩; gi_at_call 53; refine (callsIn_wide.2 (text_ ⟨xe, xv, xt, xn, xo, xg, xcs, xw, xb⟩ C c wB.heap.size _ (okA_good HK.out) ((HIN.out.below HBB.out).sl) (Nat.le_refl _) ((HRD.out.rdy.below HBB.out).tab) ((HRD.out.rdy.below HBB.out).big))).mono ?_; rintro e wC ⟨rfl, hb2⟩; have HBC := Lib.hid (HBB.out.trans (hb2.mono HBB.out.size)); have hwC : w.heap.size < wC.heap.size := Nat.lt_of_lt_of_le hwB hb2.size; clear hb2; have r0 := (HRB.out.below HBC.out).cs 0 _ rfl; have r1 := (HRB.out.below HBC.out).cs 1 _ rfl; have r2 := (HRB.out.below HBC.out).cs 2 _ rfl; have r3 := (HRB.out.below HBC.out).cs 3 _ rfl; have r4 := (HRB.out.below HBC.out).cs 4 _ rfl; have r5 := (HRB.out.below HBC.out).cs 5 _ rfl; have r6 := (HRB.out.below HBC.out).cs 6 _ rfl; have r7 := (HRB.out.below HBC.out).cs 7 _ rfl; have r8 := (HRB.out.below HBC.out).cs 8 _ rfl; have q0 := (HRB.out.below HBC.out).fr 0; have q1 := (HRB.out.below HBC.out).fr 1; have q2 := (HRB.out.below HBC.out).fr 2; have q3 := (HRB.out.below HBC.out).fr 3; have q4 := (HRB.out.below HBC.out).fr 4; have q5 := (HRB.out.below HBC.out).fr 5; have q6 := (HRB.out.below HBC.out).fr 6; have q7 := (HRB.out.below HBC.out).fr 7; have q8 := (HRB.out.below HBC.out).fr 8; have z0 := (HBC.out.cell (p := ⟨w.heap.size + 1, 0, none⟩) hgA).trans c0; have z1 := (HBC.out.cell (p := ⟨w.heap.size + 1, 1, none⟩) hgA).trans c1; have z2 := (HBC.out.cell (p := ⟨w.heap.size + 1, 2, none⟩) hgA).trans c2; have z3 := (HBC.out.cell (p := ⟨w.heap.size + 1, 3, none⟩) hgA).trans c3; have z4 := (HBC.out.cell (p := ⟨w.heap.size + 1, 4, none⟩) hgA).trans c4; have z5 := (HBC.out.cell (p := ⟨w.heap.size + 1, 5, none⟩) hgA).trans c5; have z6 := (HBC.out.cell (p := ⟨w.heap.size + 1, 6, none⟩) hgA).trans c6; have z7 := (HBC.out.cell (p := ⟨w.heap.size + 1, 7, none⟩) hgA).trans c7; have z8 := (HBC.out.cell (p := ⟨w.heap.size + 1, 8, none⟩) hgA).trans c8; skip))
        have HKD2 : Hid (wC.heap[D]? = some (.deferred (some []))) := (HBC.out.block D HDL.out).trans HKD.out
        rw [Exit.noGoto_ret, HE.out]
        refine finCellsM (w := wC) (D := D) w.heap.size (Al.zero.lst none 0) (.tuple #[Al.zero.val none 0, .int .i64 5]) HKD2.out (by omega) ?_ ?_ (show OwnT w.heap.size Al.zero 5 w _ _ from ⟨none, 0, rfl, ?_, ?_⟩)
        · intro W hW
          have r0 := hW 0 (by simp)
          have r1 := hW 1 (by simp)
          have r2 := hW 2 (by simp)
          have r3 := hW 3 (by simp)
          have r4 := hW 4 (by simp)
          have r5 := hW 5 (by simp)
          have r6 := hW 6 (by simp)
          have r7 := hW 7 (by simp)
          have r8 := hW 8 (by simp)
          clear hW
          simp only [List.getElem_cons_zero, List.getElem_cons_succ] at r0 r1 r2 r3 r4 r5 r6 r7 r8
          simp [results, Tryz.results23, go_sem, r0, r1, r2, r3, r4, r5, r6, r7, r8]
        · refine lt9 ?_
          simp [go_sem, r0, r1, r2, r3, r4, r5, r6, r7, r8]
        · exact zero_row _ _
        · exact below_mark (D := D) (below_setCells (Nat.le_refl _) _ _ _ _ (HBW.out.trans (HBC.out.mono (by omega)))) (by omega)
  case stop =>
    rintro D cd pre W hD hsp ⟨rfl, L, l, x, C, c, rfl, hf, hl, h1, hO, h0, hbw, hev⟩ hK
    have hx : parseA s.data.toList = x := by
      obtain ⟨M, hM⟩ := hsp
      unfold parseA
      rw [← hM, lnL_snoc, List.append_assoc]
      exact run_part hf hl
    clear hf hl hsp
    refine wpIn_exit ?_
    show Exit.inBlock _ (Exit.then _ _) _ _ _
    have HPR : Hid (parseR parseA s.data.toList = if okA x ∧ textL x = s.data.toList then (x, 0) else (Al.zero, 5)) := by
      show _ = _
      unfold parseR
      rw [if_neg (by rw [Array.length_toList]; exact Nat.not_lt.2 hs), hx]
    have HIN : Hid (AIn W x C c) := ⟨Nat.le_trans hev (by decide), Sl.of_own hO⟩
    have HO2 := Lib.hid hO
    have HX2 := Lib.hid h1
    have HRB := Lib.hid h0
    have HBW := Lib.hid hbw
    have HRD := Lib.hid (HR.out.below hbw)
    have HKD := Lib.hid hK
    have hgA := h1.lt
    have hwA := h0.lt
    have hDw : w.heap.size + 3 ≤ D := by have := HZ.out; omega
    have HDL : Hid (D < W.heap.size) := (Array.getElem?_eq_some_iff.1 hK).1
    clear hx hev hO h1 h0 hbw hK hs1 hB0 hbx hx0 hx1 zW
    obtain ⟨xe, xv, xt, xn, xo, xg, xcs, xw, xb⟩ := x
    have c0 := HX2.out.cs 0 _ rfl
    have c1 := HX2.out.cs 1 _ rfl
    have c2 := HX2.out.cs 2 _ rfl
    have c3 := HX2.out.cs 3 _ rfl
    have c4 := HX2.out.cs 4 _ rfl
    have c5 := HX2.out.cs 5 _ rfl
    have c6 := HX2.out.cs 6 _ rfl
    have c7 := HX2.out.cs 7 _ rfl
    have c8 := HX2.out.cs 8 _ rfl
    cases hk : okA (⟨xe, xv, xt, xn, xo, xg, xcs, xw, xb⟩ : Alr) with
    | false =>
      have HK := Lib.hid hk
      clear hk
      have HE : Hid (parseR parseA s.data.toList = (Al.zero, 5)) := HPR.out.trans (if_neg (fun h => by rw [HK.out] at h; exact absurd h.1 (by decide)))
      gi_wp2_with (refine ⟨trivial, ?_⟩; gi_at_call 52; refine (callsIn_wide.2 (validA_is ⟨xe, xv, xt, xn, xo, xg, xcs, xw, xb⟩ C c _ false HK.out HIN.out)).mono ?_; rintro e wB ⟨rfl, hb⟩; have HBB := Lib.hid hb; have hwB : w.heap.size < wB.heap.size := Nat.lt_of_lt_of_le hwA hb.size; have r0 := (HRB.out.below HBB.out).cs 0 _ rfl; have r1 := (HRB.out.below HBB.out).cs 1 _ rfl; have r2 := (HRB.out.below HBB.out).cs 2 _ rfl; have r3 := (HRB.out.below HBB.out).cs 3 _ rfl; have r4 := (HRB.out.below HBB.out).cs 4 _ rfl; have r5 := (HRB.out.below HBB.out).cs 5 _ rfl; have r6 := (HRB.out.below HBB.out).cs 6 _ rfl; have r7 := (HRB.out.below HBB.out).cs 7 _ rfl; have r8 := (HRB.out.below HBB.out).cs 8 _ rfl; have q0 := (HRB.out.below HBB.out).fr 0; have q1 := (HRB.out.below HBB.out).fr 1; have q2 := (HRB.out.below HBB.out).fr 2; have q3 := (HRB.out.below HBB.out).fr 3; have q4 := (HRB.out.below HBB.out).fr 4; have q5 := (HRB.out.below HBB.out).fr 5; have q6 := (HRB.out.below HBB.out).fr 6; have q7 := (HRB.out.below HBB.out).fr 7; have q8 := (HRB.out.below HBB.out).fr 8; have z0 := (HBB.out.cell (p := ⟨w.heap.size + 1, 0, none⟩) hgA).trans c0; have z1 := (HBB.out.cell (p := ⟨w.heap.size + 1, 1, none⟩) hgA).trans c1; have z2 := (HBB.out.cell (p := ⟨w.heap.size + 1, 2, none⟩) hgA).trans c2; have z3 := (HBB.out.cell (p := ⟨w.heap.size + 1, 3, none⟩) hgA).trans c3; have z4 := (HBB.out.cell (p := ⟨w.heap.size + 1, 4, none⟩) hgA).trans c4; have z5 := (HBB.out.cell (p := ⟨w.heap.size + 1, 5, none⟩) hgA).trans c5; have z6 := (HBB.out.cell (p := ⟨w.heap.size + 1, 6, none⟩) hgA).trans c6; have z7 := (HBB.out.cell (p := ⟨w.heap.size + 1, 7, none⟩) hgA).trans c7; have z8 := (HBB.out.cell (p := ⟨w.heap.size + 1, 8, none⟩) hgA).trans c8; clear hb)
      refine ⟨trivial, ?_⟩
      gi_wp2_with fail
      have HKD2 : Hid (wB.heap[D]? = some (.deferred (some []))) := (HBB.out.block D HDL.out).trans HKD.out
      rw [Exit.noGoto_ret, HE.out]
      refine finCellsM (w := wB) (D := D) w.heap.size (Al.zero.lst none 0) (.tuple #[Al.zero.val none 0, .int .i64 5]) HKD2.out (by omega) ?_ ?_ (show OwnT w.heap.size Al.zero 5 w _ _ from ⟨none, 0, rfl, ?_, ?_⟩)
      · intro W hW
        have r0 := hW 0 (by simp)
        have r1 := hW 1 (by simp)
        have r2 := hW 2 (by simp)
        have r3 := hW 3 (by simp)
        have r4 := hW 4 (by simp)
        have r5 := hW 5 (by simp)
        have r6 := hW 6 (by simp)
        have r7 := hW 7 (by simp)
        have r8 := hW 8 (by simp)
        clear hW
        simp only [List.getElem_cons_zero, List.getElem_cons_succ] at r0 r1 r2 r3 r4 r5 r6 r7 r8
        simp [results, Tryz.results23, go_sem, r0, r1, r2, r3, r4, r5, r6, r7, r8]
      · refine lt9 ?_
        simp [go_sem, r0, r1, r2, r3, r4, r5, r6, r7, r8]
      · exact zero_row _ _
      · exact below_mark (D := D) (below_setCells (Nat.le_refl _) _ _ _ _ (HBW.out.trans (HBB.out.mono (by omega)))) (by omega)
    | true =>
      have HK := Lib.hid hk
      clear hk
      have hts : ∀ b : Bool, decide (textL (⟨xe, xv, xt, xn, xo, xg, xcs, xw, xb⟩ : Alr) = s.data.toList) = b → (textL (⟨xe, xv, xt, xn, xo, xg, xcs, xw, xb⟩ : Alr) == s.toList) = b := fun b hb => by
        rw [← hb, Lib.toList_data, Bool.eq_iff_iff, beq_iff_eq, decide_eq_true_iff]
      have HTS := Lib.hid hts
      clear hts
      by_cases ht : textL (⟨xe, xv, xt, xn, xo, xg, xcs, xw, xb⟩ : Alr) = s.data.toList
      · have HE : Hid (parseR parseA s.data.toList = ((⟨xe, xv, xt, xn, xo, xg, xcs, xw, xb⟩ : Alr), 0)) := HPR.out.trans (if_pos ⟨HK.out, ht⟩)
        have tq := HTS.out true (decide_eq_true ht)
        have HTT := Lib.hid ht
        clear ht
        gi_wp2_with (first
          | (refine ⟨trivial, ?_⟩; gi_at_call 52; refine (callsIn_wide.2 (validA_is ⟨xe, xv, xt, xn, xo, xg, xcs, xw, xb⟩ C c _ true HK.out HIN.out)).mono ?_; rintro e wB ⟨rfl, hb⟩; have HBB := Lib.hid hb; have hwB : w.heap.size < wB.heap.size := Nat.lt_of_lt_of_le hwA hb.size; have r0 := (HRB.out.below HBB.out).cs 0 _ rfl; have r1 := (HRB.out.below HBB.out).cs 1 _ rfl; have r2 := (HRB.out.below HBB.out).cs 2 _ rfl; have r3 := (HRB.out.below HBB.out).cs 3 _ rfl; have r4 := (HRB.out.below HBB.out).cs 4 _ rfl; have r5 := (HRB.out.below HBB.out).cs 5 _ rfl; have r6 := (HRB.out.below HBB.out).cs 6 _ rfl; have r7 := (HRB.out.below HBB.out).cs 7 _ rfl; have r8 := (HRB.out.below HBB.out).cs 8 _ rfl; have q0 := (HRB.out.below HBB.out).fr 0; have q1 := (HRB.out.below HBB.out).fr 1; have q2 := (HRB.out.below HBB.out).fr 2; have q3 := (HRB.out.below HBB.out).fr 3; have q4 := (HRB.out.below HBB.out).fr 4; have q5 := (HRB.out.below HBB.out).fr 5; have q6 := (HRB.out.below HBB.out).fr 6; have q7 := (HRB.out.below HBB.out).fr 7; have q8 := (HRB.out.below HBB.out).fr 8; have z0 := (HBB.out.cell (p := ⟨w.heap.size + 1, 0, none⟩) hgA).trans c0; have z1 := (HBB.out.cell (p := ⟨w.heap.size + 1, 1, none⟩) hgA).trans c1; have z2 := (HBB.out.cell (p := ⟨w.heap.size + 1, 2, none⟩) hgA).trans c2; have z3 := (HBB.out.cell (p := ⟨w.heap.size + 1, 3, none⟩) hgA).trans c3; have z4 := (HBB.out.cell (p := ⟨w.heap.size + 1, 4, none⟩) hgA).trans c4; have z5 := (HBB.out.cell (p := ⟨w.heap.size + 1, 5, none⟩) hgA).trans c5; have z6 := (HBB.out.cell (p := ⟨w.heap.size + 1, 6, none⟩) hgA).trans c6; have z7 := (HBB.out.cell (p := ⟨w.heap.size + 1, 7, none⟩) hgA).trans c7; have z8 := (HBB.out.cell (p := ⟨w.heap.size + 1, 8, none⟩) hgA).trans c8; clear hb)
          | (refine ⟨trivial, ?_⟩; gi_at_call 53; refine (callsIn_wide.2 (text_ ⟨xe, xv, xt, xn, xo, xg, xcs, xw, xb⟩ C c wB.heap.size _ (okA_good HK.out) ((HIN.out.below HBB.out).sl) (Nat.le_refl _) ((HRD.out.rdy.below HBB.out).tab) ((HRD.out.rdy.below HBB.out).big))).mono ?_; rintro e wC ⟨rfl, hb2⟩; have HBC := Lib.hid (HBB.out.trans (hb2.mono HBB.out.size)); have hwC : w.heap.size < wC.heap.size := Nat.lt_of_lt_of_le hwB hb2.size; clear hb2; have r0 := (HRB.out.below HBC.out).cs 0 _ rfl; have r1 := (HRB.out.below HBC.out).cs 1 _ rfl; have r2 := (HRB.out.below HBC.out).cs 2 _ rfl; have r3 := (HRB.out.below HBC.out).cs 3 _ rfl; have r4 := (HRB.out.below HBC.out).cs 4 _ rfl; have r5 := (HRB.out.below HBC.out).cs 5 _ rfl; have r6 := (HRB.out.below HBC.out).cs 6 _ rfl; have r7 := (HRB.out.below HBC.out).cs 7 _ rfl; have r8 := (HRB.out.below HBC.out).cs 8 _ rfl; have q0 := (HRB.out.below HBC.out).fr 0; have q1 := (HRB.out.below HBC.out).fr 1; have q2 := (HRB.out.below HBC.out).fr 2; have q3 := (HRB.out.below HBC.out).fr 3; have q4 := (HRB.out.below HBC.out).fr 4; have q5 := (HRB.out.below HBC.out).fr 5; have q6 := (HRB.out.below HBC.out).fr 6; have q7 := (HRB.out.below HBC.out).fr 7; have q8 := (HRB.out.below HBC.out).fr 8; have z0 := (HBC.out.cell (p := ⟨w.heap.size + 1, 0, none⟩) hgA).trans c0; have z1 := (HBC.out.cell (p := ⟨w.heap.size + 1, 1, none⟩) hgA).trans c1; have z2 := (HBC.out.cell (p := ⟨w.heap.size + 1, 2, none⟩) hgA).trans c2; have z3 := (HBC.out.cell (p := ⟨w.heap.size + 1, 3, none⟩) hgA).trans c3; have z4 := (HBC.out.cell (p := ⟨w.heap.size + 1, 4, none⟩) hgA).trans c4; have z5 := (HBC.out.cell (p := ⟨w.heap.size + 1, 5, none⟩) hgA).trans c5; have z6 := (HBC.out.cell (p := ⟨w.heap.size + 1, 6, none⟩) hgA).trans c6; have z7 := (HBC.out.cell (p := ⟨w.heap.size + 1, 7, none⟩) hgA).trans c7; have z8 := (HBC.out.cell (p := ⟨w.heap.size + 1, 8, none⟩) hgA).trans c8; skip))
        have HKD2 : Hid (wC.heap[D]? = some (.deferred (some []))) := (HBC.out.block D HDL.out).trans HKD.out
        rw [Exit.noGoto_ret, HE.out]
        refine finCellsM (w := wC) (D := D) w.heap.size ((⟨xe, xv, xt, xn, xo, xg, xcs, xw, xb⟩ : Alr).lst C c) (.tuple #[(⟨xe, xv, xt, xn, xo, xg, xcs, xw, xb⟩ : Alr).val C c, .int .i64 0]) HKD2.out (by omega) ?_ ?_ (show OwnT w.heap.size (⟨xe, xv, xt, xn, xo, xg, xcs, xw, xb⟩ : Alr) 0 w _ _ from ⟨C, c, rfl, ?_, ?_⟩)
        · intro W hW
          have r0 := hW 0 (by simp)
          have r1 := hW 1 (by simp)
          have r2 := hW 2 (by simp)
          have r3 := hW 3 (by simp)
          have r4 := hW 4 (by simp)
          have r5 := hW 5 (by simp)
          have r6 := hW 6 (by simp)
          have r7 := hW 7 (by simp)
          have r8 := hW 8 (by simp)
          clear hW
          simp only [List.getElem_cons_zero, List.getElem_cons_succ] at r0 r1 r2 r3 r4 r5 r6 r7 r8
          simp [results, Tryz.results23, go_sem, r0, r1, r2, r3, r4, r5, r6, r7, r8]
        · refine lt9 ?_
          simp [go_sem, r0, r1, r2, r3, r4, r5, r6, r7, r8]
        · exact own_more (ownsRow_putObj (own_setCells (base := w.heap.size + 3) (by omega) _ _ _ (own_below HO2.out (Nat.le_refl _) HBC.out)) _ (deferred_kept HKD2.out (by omega)) rfl) (by omega)
        · exact below_mark (D := D) (below_setCells (Nat.le_refl _) _ _ _ _ (HBW.out.trans (HBC.out.mono (by omega)))) (by omega)
      · have HE : Hid (parseR parseA s.data.toList = (Al.zero, 5)) := HPR.out.trans (if_neg (fun h => ht h.2))
        have tq := HTS.out false (decide_eq_false ht)
        clear ht
        gi_wp2_with (first
          | (refine ⟨trivial, ?_⟩; gi_at_call 52; refine (callsIn_wide.2 (validA_is ⟨xe, xv, xt, xn, xo, xg, xcs, xw, xb⟩ C c _ true HK.out HIN.out)).mono ?_; rintro e wB ⟨rfl, hb⟩; have HBB := Lib.hid hb; have hwB : w.heap.size < wB.heap.size := Nat.lt_of_lt_of_le hwA hb.size; have r0 := (HRB.out.below HBB.out).cs 0 _ rfl; have r1 := (HRB.out.below HBB.out).cs 1 _ rfl; have r2 := (HRB.out.below HBB.out).cs 2 _ rfl; have r3 := (HRB.out.below HBB.out).cs 3 _ rfl; have r4 := (HRB.out.below HBB.out).cs 4 _ rfl; have r5 := (HRB.out.below HBB.out).cs 5 _ rfl; have r6 := (HRB.out.below HBB.out).cs 6 _ rfl; have r7 := (HRB.out.below HBB.out).cs 7 _ rfl; have r8 := (HRB.out.below HBB.out).cs 8 _ rfl; have q0 := (HRB.out.below HBB.out).fr 0; have q1 := (HRB.out.below HBB.out).fr 1; have q2 := (HRB.out.below HBB.out).fr 2; have q3 := (HRB.out.below HBB.out).fr 3; have q4 := (HRB.out.below HBB.out).fr 4; have q5 := (HRB.out.below HBB.out).fr 5; have q6 := (HRB.out.below HBB.out).fr 6; have q7 := (HRB.out.below HBB.out).fr 7; have q8 := (HRB.out.below HBB.out).fr 8; have z0 := (HBB.out.cell (p := ⟨w.heap.size + 1, 0, none⟩) hgA).trans c0; have z1 := (HBB.out.cell (p := ⟨w.heap.size + 1, 1, none⟩) hgA).trans c1; have z2 := (HBB.out.cell (p := ⟨w.heap.size + 1, 2, none⟩) hgA).trans c2; have z3 := (HBB.out.cell (p := ⟨w.heap.size + 1, 3, none⟩) hgA).trans c3; have z4 := (HBB.out.cell (p := ⟨w.heap.size + 1, 4, none⟩) hgA).trans c4; have z5 := (HBB.out.cell (p := ⟨w.heap.size + 1, 5, none⟩) hgA).trans c5; have z6 := (HBB.out.cell (p := ⟨w.heap.size + 1, 6, none⟩) hgA).trans c6; have z7 := (HBB.out.cell (p := ⟨w.heap.size + 1, 7, none⟩) hgA).trans c7; have z8 := (HBB.out.cell (p := ⟨w.heap.size + 1, 8, none⟩) hgA).trans c8; clear hb)
          | (refine ⟨trivial, ?_⟩; gi_at_call 53; refine (callsIn_wide.2 (text_ ⟨xe, xv, xt, xn, xo, xg, xcs, xw, xb⟩ C c wB.heap.size _ (okA_good HK.out) ((HIN.out.below HBB.out).sl) (Nat.le_refl _) ((HRD.out.rdy.below HBB.out).tab) ((HRD.out.rdy.below HBB.out).big))).mono ?_; rintro e wC ⟨rfl, hb2⟩; have HBC := Lib.hid (HBB.out.trans (hb2.mono HBB.out.size)); have hwC : w.heap.size < wC.heap.size := Nat.lt_of_lt_of_le hwB hb2.size; clear hb2; have r0 := (HRB.out.below HBC.out).cs 0 _ rfl; have r1 := (HRB.out.below HBC.out).cs 1 _ rfl; have r2 := (HRB.out.below HBC.out).cs 2 _ rfl; have r3 := (HRB.out.below HBC.out).cs 3 _ rfl; have r4 := (HRB.out.below HBC.out).cs 4 _ rfl; have r5 := (HRB.out.below HBC.out).cs 5 _ rfl; have r6 := (HRB.out.below HBC.out).cs 6 _ rfl; have r7 := (HRB.out.below HBC.out).cs 7 _ rfl; have r8 := (HRB.out.below HBC.out).cs 8 _ rfl; have q0 := (HRB.out.below HBC.out).fr 0; have q1 := (HRB.out.below HBC.out).fr 1; have q2 := (HRB.out.below HBC.out).fr 2; have q3 := (HRB.out.below HBC.out).fr 3; have q4 := (HRB.out.below HBC.out).fr 4; have q5 := (HRB.out.below HBC.out).fr 5; have q6 := (HRB.out.below HBC.out).fr 6; have q7 := (HRB.out.below HBC.out).fr 7; have q8 := (HRB.out.below HBC.out).fr 8; have z0 := (HBC.out.cell (p := ⟨w.heap.size + 1, 0, none⟩) hgA).trans c0; have z1 := (HBC.out.cell (p := ⟨w.heap.size + 1, 1, none⟩) hgA).trans c1; have z2 := (HBC.out.cell (p := ⟨w.heap.size + 1, 2, none⟩) hgA).trans c2; have z3 := (HBC.out.cell (p := ⟨w.heap.size + 1, 3, none⟩) hgA).trans c3; have z4 := (HBC.out.cell (p := ⟨w.heap.size + 1, 4, none⟩) hgA).trans c4; have z5 := (HBC.out.cell (p := ⟨w.heap.size + 1, 5, none⟩) hgA).trans c5; have z6 := (HBC.out.cell (p := ⟨w.heap.size + 1, 6, none⟩) hgA).trans c6; have z7 := (HBC.out.cell (p := ⟨w.heap.size + 1, 7, none⟩) hgA).trans c7; have z8 := (HBC.out.cell (p := ⟨w.heap.size + 1, 8, none⟩) hgA).trans c8; skip))
        have HKD2 : Hid (wC.heap[D]? = some (.deferred (some []))) := (HBC.out.block D HDL.out).trans HKD.out
        rw [Exit.noGoto_ret, HE.out]
        refine finCellsM (w := wC) (D := D) w.heap.size (Al.zero.lst none 0) (.tuple #[Al.zero.val none 0, .int .i64 5]) HKD2.out (by omega) ?_ ?_ (show OwnT w.heap.size Al.zero 5 w _ _ from ⟨none, 0, rfl, ?_, ?_⟩)
        · intro W hW
          have r0 := hW 0 (by simp)
          have r1 := hW 1 (by simp)
          have r2 := hW 2 (by simp)
          have r3 := hW 3 (by simp)
          have r4 := hW 4 (by simp)
          have r5 := hW 5 (by simp)
          have r6 := hW 6 (by simp)
          have r7 := hW 7 (by simp)
          have r8 := hW 8 (by simp)
          clear hW
          simp only [List.getElem_cons_zero, List.getElem_cons_succ] at r0 r1 r2 r3 r4 r5 r6 r7 r8
          simp [results, Tryz.results23, go_sem, r0, r1, r2, r3, r4, r5, r6, r7, r8]
        · refine lt9 ?_
          simp [go_sem, r0, r1, r2, r3, r4, r5, r6, r7, r8]
        · exact zero_row _ _
        · exact below_mark (D := D) (below_setCells (Nat.le_refl _) _ _ _ _ (HBW.out.trans (HBC.out.mono (by omega)))) (by omega)
end Go.Proofs.YtmpbhngjkbidcaaGreatDoor
