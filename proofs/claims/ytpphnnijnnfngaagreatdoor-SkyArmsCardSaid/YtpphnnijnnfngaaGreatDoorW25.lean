/-
  What the sky answers at the law's examples.
-/
import Derived.Test.YtpphnnijnnfngaaGreatDoorW24
import Derived.Test.YtpphnnijnnfngaaGreatDoorW23
import Derived.Test.YtpphnnijnnfngaaGreatDoorW15
namespace Go.Proofs.YtpphnnijnnfngaaGreatDoor
open Go.RowKit Al

theorem net2 : netG twoL 1 = 0 := by decide
theorem arr2 : (sites twoL).map (arrF (dirV 1 0)) = [-10, 0] := by kernel_rfl
theorem ring2 : pickL (fun d => diffB ((sites twoL).getD 0 noSite) ((sites twoL).getD 1 noSite) d 10 0) (cellsL 1 6) = [0, 3] := by kernel_rfl
theorem plan2 (A : Option Addr) : (planF 1 6 [tubeS A] ⟨prizeF W6 (List.replicate 6 0) [0, 1, 2, 3, 4, 5], [], 0⟩ 1).pl = [(0, 0, 0)] ∧ (planF 1 6 [tubeS A] ⟨prizeF W6 (List.replicate 6 0) [0, 1, 2, 3, 4, 5], [], 0⟩ 1).g = 5 := ⟨by kernel_rfl, by kernel_rfl⟩
theorem wg2 : weighedB 1 W6 [0, 1, 2, 3, 4, 5] = true := by decide
theorem tubeOk (A : Option Addr) : ScsOk [tubeS A] 1 where
  l1 := by show 1 ≤ 1; decide
  l4 := by show 1 ≤ 4; decide
  nm := by show namedB [[116, 117, 98, 101]] = true; decide
  ok := fun x hx => by
    rw [List.mem_singleton.1 hx]
    exact ⟨by show limB 1 2 = true; decide, by show limB 0 1 = true; decide, by show 1 ≤ 1; decide, by show 1 ≤ 8; decide, rfl, fun z hz => by
      rw [List.mem_singleton.1 (show z ∈ [((1, 0, 0) : V3)] from hz)]
      exact ⟨by decide, by decide⟩⟩
  sz := fun x hx => by rw [List.mem_singleton.1 hx]; show (4 : Nat) ≤ maxLen; unfold maxLen; omega
theorem nm2 : ∀ x ∈ twoL, x.nm.size ≤ maxLen := fun x hx => by
  simp [twoL] at hx
  rcases hx with rfl | rfl
  · show (4 : Nat) ≤ maxLen; unfold maxLen; omega
  · show (5 : Nat) ≤ maxLen; unfold maxLen; omega
theorem Sl.bT {w w' : World} {sz n c : Nat} {A : Option Addr} {xs : List Value} (h : Sl w w.heap.size sz A n c xs) (hb : Below w.heap.size w w') : Sl w' w'.heap.size sz A n c xs := (h.below hb).more hb.size
theorem Below.al {w : World} (o : Obj) : Below w.heap.size w (w.alloc o) := (Below.refl _ _).alloc (Nat.le_refl _) o
theorem Below.tr {a b c : World} (h : Below a.heap.size a b) (k : Below b.heap.size b c) : Below a.heap.size a c := h.trans (k.mono h.size)
theorem dir20 (W : World) : Calls Tryz.prog 10 #[.int .i64 2, .int .i64 0] W fun e w' => e = .returned (.tuple #[.agg #[.int .i64 2, .int .i64 (-1), .int .i64 (-1)], .int .i64 0]) ∧ Below W.heap.size W w' :=
  (Direction_ 2 0 W).mono fun _ _ ⟨he, hb⟩ => ⟨he, hb⟩
def I2 (l : List Int) (w : World) (e : Ending) (w' : World) : Prop := ∃ A c, e = .returned (.tuple #[.slice A 2 c, .int .i64 0]) ∧ Sl w' w'.heap.size 1 A 2 c (ints l) ∧ Below w.heap.size w w'
theorem arr20 (A : Option Addr) (c : Nat) (W : World) (h : Sl W W.heap.size 10 A 2 c (nsCells twoL)) : Calls Tryz.prog 11 #[.slice A 2 c, .int .i64 1, .int .i64 0] W (I2 [-10, 0] W) := by
  have k := Arrive_ok twoL A c 1 0 W net2 (by decide) h nm2
  rw [arr2] at k
  exact k.mono fun e w' ⟨B, d, he, ho, hb⟩ => ⟨B, d, he, Sl.of_own ho, hb⟩
theorem ring20 (A : Option Addr) (c : Nat) (W : World) (h : Sl W W.heap.size 10 A 2 c (nsCells twoL)) : Calls Tryz.prog 13 #[.slice A 2 c, .int .i64 1, .int .i64 0, .int .i64 1, .int .i64 10, .int .i64 0] W (I2 [0, 3] W) := by
  have k := Ring_ok twoL A c 1 0 1 10 0 W net2 (by decide) (by decide) (by decide) (by decide) (by decide) h nm2 6 (by decide)
  rw [ring2] at k
  exact k.mono fun e w' ⟨s, he, ho, hb⟩ => by
    rcases ho.2 with ⟨rfl, h0⟩ | ⟨g, cap, cur, rfl, _⟩
    · exact absurd h0 (by decide)
    · exact ⟨_, _, he, Sl.of_own ho, hb⟩
theorem cred20 (A B : Option Addr) (c d : Nat) (W : World) (hM : MxL W) (hw : Sl W W.heap.size 1 A 6 c (ints W6)) (hs : Sl W W.heap.size 1 B 3 d (ints [0, 2, 3])) : Calls Tryz.prog 14 #[.int .i64 1, .slice A 6 c, .slice B 3 d, .string ⟨#[50, 47, 51]⟩] W (I2 [0, 3] W) :=
  (credible_ _ _ _ crOk_23 A B c d W hM hw hs).mono fun _ _ ⟨A, c, he, h, hb⟩ => ⟨A, c, he, h, hb⟩
def P2T (w : World) (e : Ending) (w' : World) : Prop := ∃ A c, e = .returned (.tuple #[.slice A 1 c, .int .i64 5, .int .i64 0]) ∧ Sl w' w'.heap.size 3 A 1 c (zsC [(0, 0, 0)]) ∧ Below w.heap.size w w'
theorem plan20 (L Z A B : Option Addr) (c d : Nat) (W : World) (hL : Sl W W.heap.size 6 L 1 1 (scsC [tubeS Z])) (hZ : Sl W W.heap.size 3 Z 1 1 (zsC [(1, 0, 0)])) (hw : Sl W W.heap.size 1 A 6 c (ints W6)) (hs : Sl W W.heap.size 1 B 6 d (ints [0, 1, 2, 3, 4, 5])) : Calls Tryz.prog 15 #[.slice L 1 1, .int .i64 1, .slice A 6 c, .slice B 6 d] W (P2T W) := by
  have k := plan_ [tubeS Z] 1 (tubeOk Z) L 1 1 (by decide) (by decide) 6 (by decide) W6 [0, 1, 2, 3, 4, 5] A B c d W hL (fun x hx => by rw [List.mem_singleton.1 hx]; exact hZ) hw hs wg2
  refine k.mono fun e w' h => ?_
  obtain ⟨PA, pc, he, hsl, hb⟩ := h
  have e1 := (plan2 Z).1
  have e2 := (plan2 Z).2
  rw [show List.replicate W6.length 0 = List.replicate 6 (0 : Int) from rfl] at he hsl
  rw [e1, e2] at he
  rw [e1] at hsl
  exact ⟨PA, pc, he, hsl, hb⟩
theorem same20 (l : List Int) (A D : Option Addr) (c d : Nat) (W : World) (hl : l.length = 2) (h : Sl W W.heap.size 1 A 2 c (ints l)) (h' : Sl W W.heap.size 1 D 2 d (ints l)) : Calls Tryz.prog 17 #[.slice A 2 c, .slice D 2 d] W fun e w' => e = .returned (.bool true) ∧ Below W.heap.size W w' := by
  have k := SameInts_is l l A c D d W true (by simp) (by rw [hl]; exact h) (by rw [hl]; exact h')
  rw [hl] at k
  exact k
theorem looks20 (A D : Option Addr) (c d : Nat) (W : World) (h : Sl W W.heap.size 3 A 1 c (zsC [(0, 0, 0)])) (h' : Sl W W.heap.size 3 D 1 d (zsC [(0, 0, 0)])) : Calls Tryz.prog 18 #[.slice A 1 c, .slice D 1 d] W fun e w' => e = .returned (.bool true) ∧ Below W.heap.size W w' :=
  (sameLooks_ [(0, 0, 0)] [(0, 0, 0)] A c D d W h h').mono fun e w' ⟨he, n, hw⟩ => ⟨he, by rw [hw]; exact below_drewN (Below.refl _ _) n⟩
theorem arr3_eq (a b c x y z : Int) (w : World) : (Op.equalIn 10000 30 (.agg #[.int .i64 a, .int .i64 b, .int .i64 c]) (.agg #[.int .i64 x, .int .i64 y, .int .i64 z])).run Tryz.prog w = .ok (a == x && (b == y && c == z)) w := by
  have hp : ∀ (i : Nat) (v : Value) (cs : Array Value), cs[i]? = some v → (part 3 cs i).run Tryz.prog w = .ok v w := by
    intro i v cs h
    unfold part
    have : (isAgg 3).run Tryz.prog w = .ok false w := by kernel_rfl
    simp only [Sem.run_bind, this, Result.andThen_ok, Bool.false_eq_true, if_false, h, Sem.run_pure]
  have hs : (sizeOf 3).run Tryz.prog w = .ok 1 w := by kernel_rfl
  rw [show 10000 = 9998 + 1 + 1 from rfl]
  unfold Op.equalIn
  simp only [Sem.run_bind, run_underlying Tryz.underlying30, Result.andThen_ok, hs]
  have hq : ∀ (p q : Int), (Op.equalIn 9999 3 (.int .i64 p) (.int .i64 q)).run Tryz.prog w = .ok (p == q) w := fun p q => run_equalIn_int w 9998 3 .i64 .i64 p q Tryz.underlying3
  rw [Std.Legacy.Range.forIn_eq_forIn_range']
  simp only [Std.Legacy.Range.size, Nat.sub_zero, Nat.add_sub_cancel, Nat.div_one, show List.range' 0 3 1 = [0, 1, 2] from rfl, List.forIn_cons, List.forIn_nil, Sem.run_bind, Nat.mul_one]
  have p0 := hp 0 _ #[.int .i64 a, .int .i64 b, .int .i64 c] rfl
  have p1 := hp 1 _ #[.int .i64 a, .int .i64 b, .int .i64 c] rfl
  have p2 := hp 2 _ #[.int .i64 a, .int .i64 b, .int .i64 c] rfl
  have q0 := hp 0 _ #[.int .i64 x, .int .i64 y, .int .i64 z] rfl
  have q1 := hp 1 _ #[.int .i64 x, .int .i64 y, .int .i64 z] rfl
  have q2 := hp 2 _ #[.int .i64 x, .int .i64 y, .int .i64 z] rfl
  have h0 := hq a x
  have h1 := hq b y
  have h2 := hq c z
  clear hp hq hs
  generalize (a == x) = e0 at h0 ⊢
  generalize (b == y) = e1 at h1 ⊢
  generalize (c == z) = e2 at h2 ⊢
  simp only [List.getElem_toArray, List.getElem_cons_zero, List.getElem_cons_succ] at p0 p1 p2 q0 q1 q2
  cases e0 <;> cases e1 <;> cases e2 <;> simp [h0, h1, h2, p0, p1, p2, q0, q1, q2, Result.andThen_ok, Sem.run_pure]
end Go.Proofs.YtpphnnijnnfngaaGreatDoor

/-
  The walk of the law's works.
-/
namespace Go.Proofs.YtpphnnijnnfngaaGreatDoor
open Go.RowKit Al
attribute [local go_sem ↓] arr3_eq

set_option maxRecDepth 100000 in
set_option maxHeartbeats 8000000 in
theorem works_ (w : World) (hM : MxL w) : Calls Tryz.prog 5 #[] w fun e w' => e = .returned (.bool true) ∧ Below w.heap.size w w' := by
  have HM := Lib.hid hM
  clear hM
  go_enter Tryz.func5, Tryz.ntmps5
  go_wp2_with fail
  refine (dir20 _).mono ?_
  rintro e w1 ⟨rfl, hb⟩
  have HB1 := Lib.hid hb
  clear hb
  go_wp2_with fail
  have HV : Hid (VecAt (w1.alloc (.cells #[.int .i64 2, .int .i64 (-1), .int .i64 (-1)] 30)) w1.heap.size (2, -1, -1)) := ⟨by simp [go_sem], by simp [go_sem], by simp [go_sem], by simp⟩
  have HB : Hid (Below w.heap.size w (w1.alloc (.cells #[.int .i64 2, .int .i64 (-1), .int .i64 (-1)] 30))) := Below.tr HB1.out (Below.al _)
  obtain ⟨wa, hwa⟩ : ∃ wa, w1.alloc (.cells #[.int .i64 2, .int .i64 (-1), .int .i64 (-1)] 30) = wa := ⟨_, rfl⟩
  rw [hwa] at HV HB ⊢
  clear hwa
  obtain ⟨vb, hvb⟩ : ∃ b, w1.heap.size = b := ⟨_, rfl⟩
  rw [hvb] at HV ⊢
  clear hvb
  refine (two_ _).mono ?_
  rintro e w2 ⟨rfl, hs, hb⟩
  have HS := Lib.hid hs
  replace HB := Lib.hid (Below.tr HB.out hb)
  replace HV := Lib.hid (HV.out.below hb)
  clear hs hb
  go_wp2_with fail
  refine (arr20 _ _ _ HS.out).mono ?_
  clear HS
  rintro e w3 ⟨A3, c3, rfl, hs, hb⟩
  have H3 := Lib.hid hs
  replace HB := Lib.hid (Below.tr HB.out hb)
  replace HV := Lib.hid (HV.out.below hb)
  clear hs hb
  go_wp2_with fail
  refine (two_ _).mono ?_
  rintro e w4 ⟨rfl, hs, hb⟩
  have HS := Lib.hid hs
  replace HB := Lib.hid (Below.tr HB.out hb)
  replace HV := Lib.hid (HV.out.below hb)
  replace H3 := Lib.hid (H3.out.bT hb)
  clear hs hb
  go_wp2_with fail
  refine (ring20 _ _ _ HS.out).mono ?_
  clear HS
  rintro e w5 ⟨A5, c5, rfl, hs, hb⟩
  have H5 := Lib.hid hs
  replace HB := Lib.hid (Below.tr HB.out hb)
  replace HV := Lib.hid (HV.out.below hb)
  replace H3 := Lib.hid (H3.out.bT hb)
  clear hs hb
  go_wp2_with fail
  have b1 : Below w5.heap.size w5 (w5.alloc (.cells #[.int .i64 5, .int .i64 1, .int .i64 1, .int .i64 3, .int .i64 0, .int .i64 0] 3)) := Below.al _
  have b2 : Below (w5.alloc (.cells #[.int .i64 5, .int .i64 1, .int .i64 1, .int .i64 3, .int .i64 0, .int .i64 0] 3)).heap.size (w5.alloc (.cells #[.int .i64 5, .int .i64 1, .int .i64 1, .int .i64 3, .int .i64 0, .int .i64 0] 3)) ((w5.alloc (.cells #[.int .i64 5, .int .i64 1, .int .i64 1, .int .i64 3, .int .i64 0, .int .i64 0] 3)).alloc (.cells #[.int .i64 0, .int .i64 2, .int .i64 3] 3)) := Below.al _
  have hw6 : Sl (w5.alloc (.cells #[.int .i64 5, .int .i64 1, .int .i64 1, .int .i64 3, .int .i64 0, .int .i64 0] 3)) (w5.alloc (.cells #[.int .i64 5, .int .i64 1, .int .i64 1, .int .i64 3, .int .i64 0, .int .i64 0] 3)).heap.size 1 (some ⟨w5.heap.size, 0, none⟩) 6 6 (ints W6) := sl_new (xs := [.int .i64 5, .int .i64 1, .int .i64 1, .int .i64 3, .int .i64 0, .int .i64 0]) (heap_alloc_new w5 _) rfl (by unfold maxLen; omega)
  have hc3 : Sl ((w5.alloc (.cells #[.int .i64 5, .int .i64 1, .int .i64 1, .int .i64 3, .int .i64 0, .int .i64 0] 3)).alloc (.cells #[.int .i64 0, .int .i64 2, .int .i64 3] 3)) ((w5.alloc (.cells #[.int .i64 5, .int .i64 1, .int .i64 1, .int .i64 3, .int .i64 0, .int .i64 0] 3)).alloc (.cells #[.int .i64 0, .int .i64 2, .int .i64 3] 3)).heap.size 1 (some ⟨w5.heap.size + 1, 0, none⟩) 3 3 (ints [0, 2, 3]) := by
    have h := heap_alloc_new (w5.alloc (.cells #[.int .i64 5, .int .i64 1, .int .i64 1, .int .i64 3, .int .i64 0, .int .i64 0] 3)) (.cells #[.int .i64 0, .int .i64 2, .int .i64 3] 3)
    rw [World.size_alloc] at h
    exact sl_new (xs := [.int .i64 0, .int .i64 2, .int .i64 3]) h rfl (by unfold maxLen; omega)
  have b12 := Below.tr b1 b2
  refine (cred20 _ _ _ _ _ ((HM.out.below HB.out (Nat.le_refl _)).below b12 (Nat.le_refl _)) (Sl.bT hw6 b2) hc3).mono ?_
  replace HB := Lib.hid (Below.tr HB.out b12)
  replace HV := Lib.hid (HV.out.below b12)
  replace H3 := Lib.hid (Sl.bT H3.out b12)
  replace H5 := Lib.hid (Sl.bT H5.out b12)
  clear b1 b2 b12 hw6 hc3
  rintro e w6 ⟨A7, c7, rfl, hs, hb⟩
  have H7 := Lib.hid hs
  replace HB := Lib.hid (Below.tr HB.out hb)
  replace HV := Lib.hid (HV.out.below hb)
  replace H3 := Lib.hid (Sl.bT H3.out hb)
  replace H5 := Lib.hid (Sl.bT H5.out hb)
  clear hs hb
  go_wp2_with fail
  refine (tube_ _).mono ?_
  rintro e w7 ⟨rfl, hs, hz, hb⟩
  have HT := Lib.hid hs
  have HZ := Lib.hid hz
  replace HB := Lib.hid (Below.tr HB.out hb)
  replace HV := Lib.hid (HV.out.below hb)
  replace H3 := Lib.hid (Sl.bT H3.out hb)
  replace H5 := Lib.hid (Sl.bT H5.out hb)
  replace H7 := Lib.hid (Sl.bT H7.out hb)
  clear hs hz hb
  go_wp2_with fail
  have b1 : Below w7.heap.size w7 (w7.alloc (.cells #[.int .i64 5, .int .i64 1, .int .i64 1, .int .i64 3, .int .i64 0, .int .i64 0] 3)) := Below.al _
  have b2 : Below (w7.alloc (.cells #[.int .i64 5, .int .i64 1, .int .i64 1, .int .i64 3, .int .i64 0, .int .i64 0] 3)).heap.size (w7.alloc (.cells #[.int .i64 5, .int .i64 1, .int .i64 1, .int .i64 3, .int .i64 0, .int .i64 0] 3)) ((w7.alloc (.cells #[.int .i64 5, .int .i64 1, .int .i64 1, .int .i64 3, .int .i64 0, .int .i64 0] 3)).alloc (.cells #[.int .i64 0, .int .i64 1, .int .i64 2, .int .i64 3, .int .i64 4, .int .i64 5] 3)) := Below.al _
  have hw6 : Sl (w7.alloc (.cells #[.int .i64 5, .int .i64 1, .int .i64 1, .int .i64 3, .int .i64 0, .int .i64 0] 3)) (w7.alloc (.cells #[.int .i64 5, .int .i64 1, .int .i64 1, .int .i64 3, .int .i64 0, .int .i64 0] 3)).heap.size 1 (some ⟨w7.heap.size, 0, none⟩) 6 6 (ints W6) := sl_new (xs := [.int .i64 5, .int .i64 1, .int .i64 1, .int .i64 3, .int .i64 0, .int .i64 0]) (heap_alloc_new w7 _) rfl (by unfold maxLen; omega)
  have hc3 : Sl ((w7.alloc (.cells #[.int .i64 5, .int .i64 1, .int .i64 1, .int .i64 3, .int .i64 0, .int .i64 0] 3)).alloc (.cells #[.int .i64 0, .int .i64 1, .int .i64 2, .int .i64 3, .int .i64 4, .int .i64 5] 3)) ((w7.alloc (.cells #[.int .i64 5, .int .i64 1, .int .i64 1, .int .i64 3, .int .i64 0, .int .i64 0] 3)).alloc (.cells #[.int .i64 0, .int .i64 1, .int .i64 2, .int .i64 3, .int .i64 4, .int .i64 5] 3)).heap.size 1 (some ⟨w7.heap.size + 1, 0, none⟩) 6 6 (ints [0, 1, 2, 3, 4, 5]) := by
    have h := heap_alloc_new (w7.alloc (.cells #[.int .i64 5, .int .i64 1, .int .i64 1, .int .i64 3, .int .i64 0, .int .i64 0] 3)) (.cells #[.int .i64 0, .int .i64 1, .int .i64 2, .int .i64 3, .int .i64 4, .int .i64 5] 3)
    rw [World.size_alloc] at h
    exact sl_new (xs := [.int .i64 0, .int .i64 1, .int .i64 2, .int .i64 3, .int .i64 4, .int .i64 5]) h rfl (by unfold maxLen; omega)
  have b12 := Below.tr b1 b2
  refine (plan20 _ _ _ _ _ _ _ (Sl.bT HT.out b12) (Sl.bT HZ.out b12) (Sl.bT hw6 b2) hc3).mono ?_
  replace HB := Lib.hid (Below.tr HB.out b12)
  replace HV := Lib.hid (HV.out.below b12)
  replace H3 := Lib.hid (Sl.bT H3.out b12)
  replace H5 := Lib.hid (Sl.bT H5.out b12)
  replace H7 := Lib.hid (Sl.bT H7.out b12)
  clear b1 b2 b12 hw6 hc3 HT HZ
  rintro e w8 ⟨A9, c9, rfl, hs, hb⟩
  have H9 := Lib.hid hs
  replace HB := Lib.hid (Below.tr HB.out hb)
  replace HV := Lib.hid (HV.out.below hb)
  replace H3 := Lib.hid (Sl.bT H3.out hb)
  replace H5 := Lib.hid (Sl.bT H5.out hb)
  replace H7 := Lib.hid (Sl.bT H7.out hb)
  clear hs hb
  have v0 := HV.out.c0
  have v1 := HV.out.c1
  have v2 := HV.out.c2
  simp only at v0 v1 v2
  go_wp2_with fail
  have b1 : Below w8.heap.size w8 (w8.alloc (.cells #[.int .i64 (-10), .int .i64 0] 3)) := Below.al _
  have hn : Sl (w8.alloc (.cells #[.int .i64 (-10), .int .i64 0] 3)) (w8.alloc (.cells #[.int .i64 (-10), .int .i64 0] 3)).heap.size 1 (some ⟨w8.heap.size, 0, none⟩) 2 2 (ints [-10, 0]) := sl_new (xs := [.int .i64 (-10), .int .i64 0]) (heap_alloc_new w8 _) rfl (by unfold maxLen; omega)
  refine (same20 [-10, 0] _ _ _ _ _ rfl (Sl.bT H3.out b1) hn).mono ?_
  clear hn
  rintro e w9 ⟨rfl, hb⟩
  have hbb := Below.tr b1 hb
  replace HB := Lib.hid (Below.tr HB.out hbb)
  replace H5 := Lib.hid (Sl.bT H5.out hbb)
  replace H7 := Lib.hid (Sl.bT H7.out hbb)
  replace H9 := Lib.hid (Sl.bT H9.out hbb)
  clear b1 hb hbb v0 v1 v2
  go_wp2_with fail
  have b1 : Below w9.heap.size w9 (w9.alloc (.cells #[.int .i64 0, .int .i64 3] 3)) := Below.al _
  have hn : Sl (w9.alloc (.cells #[.int .i64 0, .int .i64 3] 3)) (w9.alloc (.cells #[.int .i64 0, .int .i64 3] 3)).heap.size 1 (some ⟨w9.heap.size, 0, none⟩) 2 2 (ints [0, 3]) := sl_new (xs := [.int .i64 0, .int .i64 3]) (heap_alloc_new w9 _) rfl (by unfold maxLen; omega)
  refine (same20 [0, 3] _ _ _ _ _ rfl (Sl.bT H5.out b1) hn).mono ?_
  clear hn
  rintro e wb ⟨rfl, hb⟩
  have hbb := Below.tr b1 hb
  replace HB := Lib.hid (Below.tr HB.out hbb)
  replace H7 := Lib.hid (Sl.bT H7.out hbb)
  replace H9 := Lib.hid (Sl.bT H9.out hbb)
  clear b1 hb hbb
  go_wp2_with fail
  have b1 : Below wb.heap.size wb (wb.alloc (.cells #[.int .i64 0, .int .i64 3] 3)) := Below.al _
  have hn : Sl (wb.alloc (.cells #[.int .i64 0, .int .i64 3] 3)) (wb.alloc (.cells #[.int .i64 0, .int .i64 3] 3)).heap.size 1 (some ⟨wb.heap.size, 0, none⟩) 2 2 (ints [0, 3]) := sl_new (xs := [.int .i64 0, .int .i64 3]) (heap_alloc_new wb _) rfl (by unfold maxLen; omega)
  refine (same20 [0, 3] _ _ _ _ _ rfl (Sl.bT H7.out b1) hn).mono ?_
  clear hn
  rintro e wc ⟨rfl, hb⟩
  have hbb := Below.tr b1 hb
  replace HB := Lib.hid (Below.tr HB.out hbb)
  replace H9 := Lib.hid (Sl.bT H9.out hbb)
  clear b1 hb hbb
  go_wp2_with fail
  have b1 : Below wc.heap.size wc (wc.alloc (.cells #[.int .i64 0, .int .i64 0, .int .i64 0] 62)) := Below.al _
  have hn : Sl (wc.alloc (.cells #[.int .i64 0, .int .i64 0, .int .i64 0] 62)) (wc.alloc (.cells #[.int .i64 0, .int .i64 0, .int .i64 0] 62)).heap.size 3 (some ⟨wc.heap.size, 0, none⟩) 1 1 (zsC [(0, 0, 0)]) := sl_new (xs := [.int .i64 0, .int .i64 0, .int .i64 0]) (heap_alloc_new wc _) rfl (by unfold maxLen; omega)
  refine (looks20 _ _ _ _ _ (Sl.bT H9.out b1) hn).mono ?_
  clear hn
  rintro e wd ⟨rfl, hb⟩
  have hbb := Below.tr b1 hb
  replace HB := Lib.hid (Below.tr HB.out hbb)
  clear b1 hb hbb
  go_wp2_with fail
  go_ret
  exact ⟨rfl, HB.out⟩
end Go.Proofs.YtpphnnijnnfngaaGreatDoor
