/-
  What the sky answers at the chapter's other examples.
-/
import Derived.Test.YtcclfhdglhbpcaaGreatDoorW63
import Derived.Test.YtcclfhdglhbpcaaGreatDoorW25
import Derived.Test.YtcclfhdglhbpcaaGreatDoorW26
import Derived.Test.YtcclfhdglhbpcaaGreatDoorW42
namespace Go.Proofs.YtcclfhdglhbpcaaGreatDoor
open Go.RowKit Al Nat9 Ring9

theorem tx_1 : bT (txR ⟨false, 1, 1⟩) = ⟨#[49]⟩ := by
  show bT (([] : List UInt8) ++ Lib.decDigits 1 ++ []) = _
  rw [Lib.decDigits_one (by omega)]; rfl
theorem tx_0 : bT (txR ⟨false, 0, 1⟩) = ⟨#[48]⟩ := by
  show bT (([] : List UInt8) ++ Lib.decDigits 0 ++ []) = _
  rw [Lib.decDigits_one (by omega)]; rfl
theorem tx_m1 : bT (txR ⟨true, 1, 1⟩) = ⟨#[45, 49]⟩ := by
  show bT (([45] : List UInt8) ++ Lib.decDigits 1 ++ []) = _
  rw [Lib.decDigits_one (by omega)]; rfl
theorem tx_12 : bT (txR ⟨false, 1, 2⟩) = ⟨#[49, 47, 50]⟩ := by
  show bT (([] : List UInt8) ++ Lib.decDigits 1 ++ 47 :: Lib.decDigits 2) = _
  rw [Lib.decDigits_one (by omega), Lib.decDigits_one (by omega)]; rfl
theorem cof1 (W : World) : Calls Tryz.prog 26 #[.int .i64 2, .agg #[.int .i64 2, .int .i64 (-1), .int .i64 (-1)]] W fun e w' => e = .returned (.tuple #[.int .i64 0, .int .i64 0]) ∧ Below W.heap.size W w' :=
  (CellOf_ 2 (2, -1, -1) W).mono fun e w' ⟨he, hb⟩ => ⟨by rw [he, show cofV 2 (2, -1, -1) = 0 by kernel_rfl, show cofE 2 (2, -1, -1) = 0 by kernel_rfl], hb⟩
theorem cof2 (W : World) : Calls Tryz.prog 26 #[.int .i64 2, .agg #[.int .i64 5, .int .i64 0, .int .i64 (-5)]] W fun e w' => e = .returned (.tuple #[.int .i64 2, .int .i64 0]) ∧ Below W.heap.size W w' :=
  (CellOf_ 2 (5, 0, -5) W).mono fun e w' ⟨he, hb⟩ => ⟨by rw [he, show cofV 2 (5, 0, -5) = 2 by kernel_rfl, show cofE 2 (5, 0, -5) = 0 by kernel_rfl], hb⟩
theorem cof3 (W : World) : Calls Tryz.prog 26 #[.int .i64 1, .agg #[.int .i64 0, .int .i64 0, .int .i64 0]] W fun e w' => e = .returned (.tuple #[.int .i64 0, .int .i64 4]) ∧ Below W.heap.size W w' :=
  (CellOf_ 1 (0, 0, 0) W).mono fun e w' ⟨he, hb⟩ => ⟨by rw [he, show cofV 1 (0, 0, 0) = 0 by kernel_rfl, show cofE 1 (0, 0, 0) = 4 by kernel_rfl], hb⟩
theorem I2_of {v : Int} {l : List Int} {a b : Int} (hv : v = 0) (hl : l = [a, b]) {w w' : World} {e : Ending} (h : FitOut v l w e w') : I2 [a, b] w e w' := by
  subst hv hl
  obtain ⟨s, he, ho, hb⟩ := h
  rcases ho.2 with ⟨_, h0⟩ | ⟨g, cap, cur, rfl, _⟩
  · exact absurd h0 (by simp)
  · exact ⟨_, _, he, Sl.of_own ho, hb⟩
def I1 (l : List Int) (w : World) (e : Ending) (w' : World) : Prop := ∃ A c, e = .returned (.tuple #[.slice A 1 c, .int .i64 0]) ∧ Sl w' w'.heap.size 1 A 1 c (ints l) ∧ Below w.heap.size w w'
theorem I1_of {v : Int} {l : List Int} {a : Int} (hv : v = 0) (hl : l = [a]) {w w' : World} {e : Ending} (h : FitOut v l w e w') : I1 [a] w e w' := by
  subst hv hl
  obtain ⟨s, he, ho, hb⟩ := h
  rcases ho.2 with ⟨_, h0⟩ | ⟨g, cap, cur, rfl, _⟩
  · exact absurd h0 (by simp)
  · exact ⟨_, _, he, Sl.of_own ho, hb⟩
theorem arr22 (A : Option Addr) (c : Nat) (W : World) (h : Sl W W.heap.size 10 A 2 c (nsCells twoL)) : Calls Tryz.prog 18 #[.slice A 2 c, .int .i64 1, .int .i64 2] W (I2 [0, -10] W) :=
  (Arrive_ twoL A c 1 2 W h nm2).mono fun _ _ k => I2_of (by kernel_rfl) (by kernel_rfl) k
theorem arr24 (A : Option Addr) (c : Nat) (W : World) (h : Sl W W.heap.size 10 A 2 c (nsCells twoL)) : Calls Tryz.prog 18 #[.slice A 2 c, .int .i64 1, .int .i64 4] W (I2 [0, 0] W) :=
  (Arrive_ twoL A c 1 4 W h nm2).mono fun _ _ k => I2_of (by kernel_rfl) (by kernel_rfl) k
theorem ring22 (A : Option Addr) (c : Nat) (W : World) (h : Sl W W.heap.size 10 A 2 c (nsCells twoL)) : Calls Tryz.prog 12 #[.slice A 2 c, .int .i64 1, .int .i64 0, .int .i64 1, .int .i64 0, .int .i64 3] W (I2 [4, 5] W) :=
  (Ring_ twoL A c 1 0 1 0 3 W h nm2 6 (by decide)).mono fun _ _ k => I2_of (by kernel_rfl) (by kernel_rfl) k
theorem fit22 (A B : Option Addr) (c d : Nat) (W : World) (h : Sl W W.heap.size 10 A 2 c (nsCells twoL)) (h' : Sl W W.heap.size 3 B 2 d (trCells [(0, 5, 1), (1, 14, 0)])) : Calls Tryz.prog 15 #[.slice A 2 c, .int .i64 1, .slice B 2 d] W (I2 [0, 3] W) :=
  (fits_ twoL A B c d 1 [(0, 5, 1), (1, 14, 0)] W h nm2 h' 6 (by decide)).mono fun _ _ k => I2_of (by kernel_rfl) (by kernel_rfl) k
def G2 (l : List ByteArray) (w : World) (e : Ending) (w' : World) : Prop := ∃ A c, e = .returned (.tuple #[.slice A 2 c, .int .i64 0]) ∧ Sl w' w'.heap.size 1 A 2 c (strs l) ∧ Below w.heap.size w w'
theorem G2_of {v : Int} {l : List ByteArray} {a b : ByteArray} (hv : v = 0) (hl : l = [a, b]) {w w' : World} {e : Ending} (h : GraspOut v l w e w') : G2 [a, b] w e w' := by
  subst hv hl
  obtain ⟨s, he, ho, hb⟩ := h
  rcases ho.2 with ⟨_, h0⟩ | ⟨g, cap, cur, rfl, _⟩
  · exact absurd h0 (by simp)
  · exact ⟨_, _, he, Sl.of_own ho, hb⟩
theorem gra_of {n cl : Int} {p q : Rat9} {a b : ByteArray} (h0 : celG twoL n cl = 0) (h1 : (sites twoL).map (fun s => graspF s (dirV n cl)) = [p, q]) (ha : bT (txR p) = a) (hb : bT (txR q) = b) : graE twoL n cl = [a, b] := by
  unfold graE grL
  rw [if_pos h0]
  have e : (sites twoL).map (fun s => bT (txR (graspF s (dirV n cl)))) = ((sites twoL).map (fun s => graspF s (dirV n cl))).map (fun r => bT (txR r)) := by rw [List.map_map]; rfl
  rw [e, h1, List.map_cons, List.map_cons, List.map_nil, ha, hb]
theorem gr0 (A : Option Addr) (c : Nat) (W : World) (hM : RdN W) (h : Sl W W.heap.size 10 A 2 c (nsCells twoL)) : Calls Tryz.prog 43 #[.slice A 2 c, .int .i64 1, .int .i64 0] W (G2 [⟨#[49]⟩, ⟨#[48]⟩] W) :=
  (Grasp_ twoL A c 1 0 W h nm2 hM).mono fun _ _ k => G2_of (by kernel_rfl) (gra_of (p := ⟨false, 1, 1⟩) (q := ⟨false, 0, 1⟩) (by kernel_rfl) (by kernel_rfl) tx_1 tx_0) k
theorem gr2 (A : Option Addr) (c : Nat) (W : World) (hM : RdN W) (h : Sl W W.heap.size 10 A 2 c (nsCells twoL)) : Calls Tryz.prog 43 #[.slice A 2 c, .int .i64 1, .int .i64 2] W (G2 [⟨#[45, 49]⟩, ⟨#[49]⟩] W) :=
  (Grasp_ twoL A c 1 2 W h nm2 hM).mono fun _ _ k => G2_of (by kernel_rfl) (gra_of (p := ⟨true, 1, 1⟩) (q := ⟨false, 1, 1⟩) (by kernel_rfl) (by kernel_rfl) tx_m1 tx_1) k
theorem gr20 (A : Option Addr) (c : Nat) (W : World) (hM : RdN W) (h : Sl W W.heap.size 10 A 2 c (nsCells twoL)) : Calls Tryz.prog 43 #[.slice A 2 c, .int .i64 2, .int .i64 0] W (G2 [⟨#[49, 47, 50]⟩, ⟨#[48]⟩] W) :=
  (Grasp_ twoL A c 2 0 W h nm2 hM).mono fun _ _ k => G2_of (by kernel_rfl) (gra_of (p := ⟨false, 1, 2⟩) (q := ⟨false, 0, 1⟩) (by kernel_rfl) (by kernel_rfl) tx_12 tx_0) k
theorem cred12 (A B : Option Addr) (c d : Nat) (W : World) (hM : MxL W) (hw : Sl W W.heap.size 1 A 6 c (ints W6)) (hs : Sl W W.heap.size 1 B 3 d (ints [0, 2, 3])) : Calls Tryz.prog 45 #[.int .i64 1, .slice A 6 c, .slice B 3 d, .string ⟨#[49, 47, 50]⟩] W (I1 [0] W) :=
  (credible_ _ _ _ crOk_12 A B c d W hM hw hs).mono fun _ _ ⟨A, c, he, h, hb⟩ => ⟨A, c, he, h, hb⟩
theorem sees1 (L Z : Option Addr) (W : World) (hL : Sl W W.heap.size 6 L 1 1 (scsC [tubeS Z])) (hZ : Sl W W.heap.size 3 Z 1 1 (zsC [(1, 0, 0)])) : Calls Tryz.prog 38 #[.slice L 1 1, .int .i64 0, .int .i64 0, .int .i64 1] W (I1 [0] W) :=
  (Sees_ [tubeS Z] L 1 0 0 1 W hL (fun x hx => by rw [List.mem_singleton.1 hx]; exact hZ) (fun x hx => by rw [List.mem_singleton.1 hx]; show (4 : Nat) ≤ maxLen; unfold maxLen; omega) 6 (by decide)).mono fun _ _ k => I1_of (by kernel_rfl) (by kernel_rfl) k
theorem cells9 (W : World) : Calls Tryz.prog 22 #[.int .i64 9] W fun e w' => e = .returned (.tuple #[.int .i64 0, .int .i64 91]) ∧ W = w' :=
  (Cells_ 9 W).mono fun _ _ ⟨he, hw⟩ => ⟨he, hw⟩
theorem same10 (l : List Int) (A D : Option Addr) (c d : Nat) (W : World) (hl : l.length = 1) (h : Sl W W.heap.size 1 A 1 c (ints l)) (h' : Sl W W.heap.size 1 D 1 d (ints l)) : Calls Tryz.prog 14 #[.slice A 1 c, .slice D 1 d] W fun e w' => e = .returned (.bool true) ∧ Below W.heap.size W w' := by
  have k := SameInts_is l l A c D d W true (by simp) (by rw [hl]; exact h) (by rw [hl]; exact h')
  rw [hl] at k
  exact k
theorem netOne (g : Nat) (W : World) (h : Sl W W.heap.size 10 (some ⟨g, 0, none⟩) 2 2 (nsCells twoL)) : Calls Tryz.prog 47 #[.slice (some ⟨g, 0, none⟩) 1 2] W fun e w' => e = .returned (.int .i64 90) ∧ Below W.heap.size W w' := by
  have h1 : Sl W W.heap.size 10 (some ⟨g, 0, none⟩) (twoL.take 1).length 2 (nsCells (twoL.take 1)) := by
    obtain ⟨b, off, e, hb, hc⟩ := h.at_ (by decide)
    refine ⟨rfl, by decide, h.max, (fun h => by cases h), fun _ => ⟨b, off, e, hb, fun j u hu => hc j u ?_⟩⟩
    have e2 : nsCells twoL = nsCells (twoL.take 1) ++ nsCells (twoL.drop 1) := rfl
    rw [e2]
    rw [List.getElem?_append_left (List.getElem?_eq_some_iff.1 hu).1]
    exact hu
  exact checkNet_ (twoL.take 1) _ 2 W h1 (fun x hx => nm2 x (List.mem_of_mem_take hx))
set_option maxRecDepth 100000 in
set_option maxHeartbeats 4000000 in
theorem sameNums_ (l : List ByteArray) (n : Nat) (hn : l.length = n) (hn9 : n ≤ 1000) (A D : Option Addr) (c d : Nat) (w : World) (h : Sl w w.heap.size 1 A n c (strs l)) (h' : Sl w w.heap.size 1 D n d (strs l)) : Calls Tryz.prog 44 #[.slice A n c, .slice D n d] w fun e w' => e = .returned (.bool true) ∧ Below w.heap.size w w' := by
  have HL := Lib.hid h
  have HR := Lib.hid h'
  have HN := Lib.hid hn
  have t0 : ((n : Int) != (n : Int)) = false := by simp
  have t1 : (n != n) = false := by simp
  clear h h' hn
  go_enter Tryz.func44, Tryz.ntmps44
  go_wp2_with fail
  go_loopw [5] (fun i wr => ∃ k q : Nat, k ≤ n ∧ i = .int .i64 (k : Int) ∧ wr = w.drewN q) (fun i _ => n - (intOf i).toNat)
  case atStart => exact ⟨0, 0, Nat.zero_le _, rfl, rfl⟩
  case round =>
    obtain ⟨k, q, hk, rfl, rfl⟩ := hrel
    by_cases hlt : k < n
    · have hkl : k < l.length := by rw [HN.out]; exact hlt
      have hlt' : (k : Int) < (n : Int) := by omega
      obtain ⟨b1, o1, rfl, hb1, z1⟩ := HL.out.strAt hkl
      obtain ⟨b2, o2, rfl, hb2, z2⟩ := HR.out.strAt hkl
      obtain ⟨x, hx⟩ : ∃ x, l[k] = x := ⟨_, rfl⟩
      rw [hx] at z1 z2
      have t2 : (x.toList != x.toList) = false := by simp
      clear hx
      go_wp2_with fail
      go_quiet (fail)
      go_wp2_with fail
      go_roundw
      case rel => exact ⟨k + 1, _, by omega, by go_num, rfl⟩
      case measure => simp [intOf]; omega
    · obtain rfl : k = n := by omega
      go_wp2_with fail
      go_ret
      exact ⟨rfl, below_drewN (Below.refl _ _) q⟩
end Go.Proofs.YtcclfhdglhbpcaaGreatDoor

/-
  The walk of the law SkyKnown.
-/
namespace Go.Proofs.YtcclfhdglhbpcaaGreatDoor
open Go.RowKit Al Nat9
attribute [local go_sem ↓] arr3_eq

theorem scNil (W : World) : Calls Tryz.prog 36 #[.slice none 0 0] W fun e w' => e = .returned (.int .i64 94) ∧ Below W.heap.size W w' :=
  (checkScopes_ [] none 0 W (Sl.nilS _ _ _) (fun x hx => by cases hx) (fun x hx => by cases hx)).mono fun _ _ ⟨he, hb⟩ => ⟨he, hb⟩
set_option maxRecDepth 100000 in
set_option maxHeartbeats 8000000 in
theorem skyKnown_ (w : World) (hM : RdN w) : Calls Tryz.prog 11 #[] w fun e w' => e = .returned (.bool true) ∧ Below w.heap.size w w' := by
  have HM := Lib.hid hM
  clear hM
  go_enter Tryz.func11, Tryz.ntmps11
  go_wp2_with fail
  refine (cof1 _).mono ?_
  rintro e w1 ⟨rfl, hb⟩
  have HB := Lib.hid hb
  clear hb
  go_wp2_with fail
  refine (cof2 _).mono ?_
  rintro e w2 ⟨rfl, hb⟩
  replace HB := Lib.hid (Below.tr HB.out hb)
  clear hb
  go_wp2_with fail
  refine (two_ _).mono ?_
  rintro e w3 ⟨rfl, hs, hb⟩
  have HS := Lib.hid hs
  replace HB := Lib.hid (Below.tr HB.out hb)
  clear hs hb
  go_wp2_with fail
  refine (arr22 _ _ _ HS.out).mono ?_
  clear HS
  rintro e w4 ⟨Ap, cp, rfl, hs, hb⟩
  replace HB := Lib.hid (Below.tr HB.out hb)
  have Hp := Lib.hid hs
  clear hs hb
  go_wp2_with fail
  refine (two_ _).mono ?_
  rintro e w5 ⟨rfl, hs, hb⟩
  have HS := Lib.hid hs
  replace HB := Lib.hid (Below.tr HB.out hb)
  replace Hp := Lib.hid (Sl.bT Hp.out hb)
  clear hs hb
  go_wp2_with fail
  refine (arr24 _ _ _ HS.out).mono ?_
  clear HS
  rintro e w6 ⟨Aq, cq, rfl, hs, hb⟩
  replace HB := Lib.hid (Below.tr HB.out hb)
  replace Hp := Lib.hid (Sl.bT Hp.out hb)
  have Hq := Lib.hid hs
  clear hs hb
  go_wp2_with fail
  have b1 : Below w6.heap.size w6 (w6.alloc (.cells #[.int .i64 0, .int .i64 (-10)] 3)) := Below.al _
  have hn : Sl (w6.alloc (.cells #[.int .i64 0, .int .i64 (-10)] 3)) (w6.alloc (.cells #[.int .i64 0, .int .i64 (-10)] 3)).heap.size 1 (some ⟨w6.heap.size, 0, none⟩) 2 2 (ints [0, -10]) := sl_new (xs := [.int .i64 0, .int .i64 (-10)]) (heap_alloc_new w6 _) rfl (by unfold maxLen; omega)
  refine (same20 [0, -10] _ _ _ _ _ rfl (Sl.bT Hp.out b1) hn).mono ?_
  clear hn Hp
  rintro e w7 ⟨rfl, hb⟩
  have hbb := Below.tr b1 hb
  replace HB := Lib.hid (Below.tr HB.out hbb)
  replace Hq := Lib.hid (Sl.bT Hq.out hbb)
  clear b1 hb hbb
  go_wp2_with fail
  have b1 : Below w7.heap.size w7 (w7.alloc (.cells #[.int .i64 0, .int .i64 0] 3)) := Below.al _
  have hn : Sl (w7.alloc (.cells #[.int .i64 0, .int .i64 0] 3)) (w7.alloc (.cells #[.int .i64 0, .int .i64 0] 3)).heap.size 1 (some ⟨w7.heap.size, 0, none⟩) 2 2 (ints [0, 0]) := sl_new (xs := [.int .i64 0, .int .i64 0]) (heap_alloc_new w7 _) rfl (by unfold maxLen; omega)
  refine (same20 [0, 0] _ _ _ _ _ rfl (Sl.bT Hq.out b1) hn).mono ?_
  clear hn Hq
  rintro e w8 ⟨rfl, hb⟩
  have hbb := Below.tr b1 hb
  replace HB := Lib.hid (Below.tr HB.out hbb)
  clear b1 hb hbb
  go_wp2_with fail
  refine (two_ _).mono ?_
  rintro e w9 ⟨rfl, hs, hb⟩
  have HS := Lib.hid hs
  replace HB := Lib.hid (Below.tr HB.out hb)
  clear hs hb
  go_wp2_with fail
  refine (ring22 _ _ _ HS.out).mono ?_
  clear HS
  rintro e w10 ⟨Ap, cp, rfl, hs, hb⟩
  replace HB := Lib.hid (Below.tr HB.out hb)
  have Hp := Lib.hid hs
  clear hs hb
  go_wp2_with fail
  refine (two_ _).mono ?_
  rintro e w11 ⟨rfl, hs, hb⟩
  have HS := Lib.hid hs
  replace HB := Lib.hid (Below.tr HB.out hb)
  replace Hp := Lib.hid (Sl.bT Hp.out hb)
  clear hs hb
  go_wp2_with fail
  have b1 : Below w11.heap.size w11 (w11.alloc (.cells #[.int .i64 0, .int .i64 5, .int .i64 1, .int .i64 1, .int .i64 14, .int .i64 0] 41)) := Below.al _
  have hn : Sl (w11.alloc (.cells #[.int .i64 0, .int .i64 5, .int .i64 1, .int .i64 1, .int .i64 14, .int .i64 0] 41)) (w11.alloc (.cells #[.int .i64 0, .int .i64 5, .int .i64 1, .int .i64 1, .int .i64 14, .int .i64 0] 41)).heap.size 3 (some ⟨w11.heap.size, 0, none⟩) 2 2 (trCells [(0, 5, 1), (1, 14, 0)]) := sl_new (xs := [.int .i64 0, .int .i64 5, .int .i64 1, .int .i64 1, .int .i64 14, .int .i64 0]) (heap_alloc_new w11 _) rfl (by unfold maxLen; omega)
  refine (fit22 _ _ _ _ _ (Sl.bT HS.out b1) hn).mono ?_
  clear hn HS
  rintro e w12 ⟨Aq, cq, rfl, hs, hb⟩
  have hbb := Below.tr b1 hb
  replace HB := Lib.hid (Below.tr HB.out hbb)
  replace Hp := Lib.hid (Sl.bT Hp.out hbb)
  have Hq := Lib.hid hs
  clear b1 hs hb hbb
  go_wp2_with fail
  have b1 : Below w12.heap.size w12 (w12.alloc (.cells #[.int .i64 4, .int .i64 5] 3)) := Below.al _
  have hn : Sl (w12.alloc (.cells #[.int .i64 4, .int .i64 5] 3)) (w12.alloc (.cells #[.int .i64 4, .int .i64 5] 3)).heap.size 1 (some ⟨w12.heap.size, 0, none⟩) 2 2 (ints [4, 5]) := sl_new (xs := [.int .i64 4, .int .i64 5]) (heap_alloc_new w12 _) rfl (by unfold maxLen; omega)
  refine (same20 [4, 5] _ _ _ _ _ rfl (Sl.bT Hp.out b1) hn).mono ?_
  clear hn Hp
  rintro e w13 ⟨rfl, hb⟩
  have hbb := Below.tr b1 hb
  replace HB := Lib.hid (Below.tr HB.out hbb)
  replace Hq := Lib.hid (Sl.bT Hq.out hbb)
  clear b1 hb hbb
  go_wp2_with fail
  have b1 : Below w13.heap.size w13 (w13.alloc (.cells #[.int .i64 0, .int .i64 3] 3)) := Below.al _
  have hn : Sl (w13.alloc (.cells #[.int .i64 0, .int .i64 3] 3)) (w13.alloc (.cells #[.int .i64 0, .int .i64 3] 3)).heap.size 1 (some ⟨w13.heap.size, 0, none⟩) 2 2 (ints [0, 3]) := sl_new (xs := [.int .i64 0, .int .i64 3]) (heap_alloc_new w13 _) rfl (by unfold maxLen; omega)
  refine (same20 [0, 3] _ _ _ _ _ rfl (Sl.bT Hq.out b1) hn).mono ?_
  clear hn Hq
  rintro e w14 ⟨rfl, hb⟩
  have hbb := Below.tr b1 hb
  replace HB := Lib.hid (Below.tr HB.out hbb)
  clear b1 hb hbb
  go_wp2_with fail
  refine (two_ _).mono ?_
  rintro e w15 ⟨rfl, hs, hb⟩
  have HS := Lib.hid hs
  replace HB := Lib.hid (Below.tr HB.out hb)
  clear hs hb
  go_wp2_with fail
  refine (gr0 _ _ _ (HM.out.below HB.out (Nat.le_refl _)) HS.out).mono ?_
  clear HS
  rintro e w16 ⟨Ap, cp, rfl, hs, hb⟩
  replace HB := Lib.hid (Below.tr HB.out hb)
  have Hp := Lib.hid hs
  clear hs hb
  go_wp2_with fail
  refine (two_ _).mono ?_
  rintro e w17 ⟨rfl, hs, hb⟩
  have HS := Lib.hid hs
  replace HB := Lib.hid (Below.tr HB.out hb)
  replace Hp := Lib.hid (Sl.bT Hp.out hb)
  clear hs hb
  go_wp2_with fail
  refine (gr2 _ _ _ (HM.out.below HB.out (Nat.le_refl _)) HS.out).mono ?_
  clear HS
  rintro e w18 ⟨Aq, cq, rfl, hs, hb⟩
  replace HB := Lib.hid (Below.tr HB.out hb)
  replace Hp := Lib.hid (Sl.bT Hp.out hb)
  have Hq := Lib.hid hs
  clear hs hb
  go_wp2_with fail
  refine (two_ _).mono ?_
  rintro e w19 ⟨rfl, hs, hb⟩
  have HS := Lib.hid hs
  replace HB := Lib.hid (Below.tr HB.out hb)
  replace Hp := Lib.hid (Sl.bT Hp.out hb)
  replace Hq := Lib.hid (Sl.bT Hq.out hb)
  clear hs hb
  go_wp2_with fail
  refine (gr20 _ _ _ (HM.out.below HB.out (Nat.le_refl _)) HS.out).mono ?_
  clear HS
  rintro e w20 ⟨Ar, cr, rfl, hs, hb⟩
  replace HB := Lib.hid (Below.tr HB.out hb)
  replace Hp := Lib.hid (Sl.bT Hp.out hb)
  replace Hq := Lib.hid (Sl.bT Hq.out hb)
  have Hr := Lib.hid hs
  clear hs hb
  go_wp2_with fail
  have b1 : Below w20.heap.size w20 (w20.alloc (.cells #[.string ⟨#[49]⟩, .string ⟨#[48]⟩] 76)) := Below.al _
  have hn : Sl (w20.alloc (.cells #[.string ⟨#[49]⟩, .string ⟨#[48]⟩] 76)) (w20.alloc (.cells #[.string ⟨#[49]⟩, .string ⟨#[48]⟩] 76)).heap.size 1 (some ⟨w20.heap.size, 0, none⟩) 2 2 (strs [⟨#[49]⟩, ⟨#[48]⟩]) := sl_new (xs := [.string ⟨#[49]⟩, .string ⟨#[48]⟩]) (heap_alloc_new w20 _) rfl (by unfold maxLen; omega)
  refine (sameNums_ [⟨#[49]⟩, ⟨#[48]⟩] 2 rfl (by omega) _ _ _ _ _ (Sl.bT Hp.out b1) hn).mono ?_
  clear hn Hp
  rintro e w21 ⟨rfl, hb⟩
  have hbb := Below.tr b1 hb
  replace HB := Lib.hid (Below.tr HB.out hbb)
  replace Hq := Lib.hid (Sl.bT Hq.out hbb)
  replace Hr := Lib.hid (Sl.bT Hr.out hbb)
  clear b1 hb hbb
  go_wp2_with fail
  have b1 : Below w21.heap.size w21 (w21.alloc (.cells #[.string ⟨#[45, 49]⟩, .string ⟨#[49]⟩] 76)) := Below.al _
  have hn : Sl (w21.alloc (.cells #[.string ⟨#[45, 49]⟩, .string ⟨#[49]⟩] 76)) (w21.alloc (.cells #[.string ⟨#[45, 49]⟩, .string ⟨#[49]⟩] 76)).heap.size 1 (some ⟨w21.heap.size, 0, none⟩) 2 2 (strs [⟨#[45, 49]⟩, ⟨#[49]⟩]) := sl_new (xs := [.string ⟨#[45, 49]⟩, .string ⟨#[49]⟩]) (heap_alloc_new w21 _) rfl (by unfold maxLen; omega)
  refine (sameNums_ [⟨#[45, 49]⟩, ⟨#[49]⟩] 2 rfl (by omega) _ _ _ _ _ (Sl.bT Hq.out b1) hn).mono ?_
  clear hn Hq
  rintro e w22 ⟨rfl, hb⟩
  have hbb := Below.tr b1 hb
  replace HB := Lib.hid (Below.tr HB.out hbb)
  replace Hr := Lib.hid (Sl.bT Hr.out hbb)
  clear b1 hb hbb
  go_wp2_with fail
  have b1 : Below w22.heap.size w22 (w22.alloc (.cells #[.string ⟨#[49, 47, 50]⟩, .string ⟨#[48]⟩] 76)) := Below.al _
  have hn : Sl (w22.alloc (.cells #[.string ⟨#[49, 47, 50]⟩, .string ⟨#[48]⟩] 76)) (w22.alloc (.cells #[.string ⟨#[49, 47, 50]⟩, .string ⟨#[48]⟩] 76)).heap.size 1 (some ⟨w22.heap.size, 0, none⟩) 2 2 (strs [⟨#[49, 47, 50]⟩, ⟨#[48]⟩]) := sl_new (xs := [.string ⟨#[49, 47, 50]⟩, .string ⟨#[48]⟩]) (heap_alloc_new w22 _) rfl (by unfold maxLen; omega)
  refine (sameNums_ [⟨#[49, 47, 50]⟩, ⟨#[48]⟩] 2 rfl (by omega) _ _ _ _ _ (Sl.bT Hr.out b1) hn).mono ?_
  clear hn Hr
  rintro e w23 ⟨rfl, hb⟩
  have hbb := Below.tr b1 hb
  replace HB := Lib.hid (Below.tr HB.out hbb)
  clear b1 hb hbb
  go_wp2_with fail
  have b1 : Below w23.heap.size w23 (w23.alloc (.cells #[.int .i64 5, .int .i64 1, .int .i64 1, .int .i64 3, .int .i64 0, .int .i64 0] 3)) := Below.al _
  have b2 : Below (w23.alloc (.cells #[.int .i64 5, .int .i64 1, .int .i64 1, .int .i64 3, .int .i64 0, .int .i64 0] 3)).heap.size (w23.alloc (.cells #[.int .i64 5, .int .i64 1, .int .i64 1, .int .i64 3, .int .i64 0, .int .i64 0] 3)) ((w23.alloc (.cells #[.int .i64 5, .int .i64 1, .int .i64 1, .int .i64 3, .int .i64 0, .int .i64 0] 3)).alloc (.cells #[.int .i64 0, .int .i64 2, .int .i64 3] 3)) := Below.al _
  have hw6 : Sl (w23.alloc (.cells #[.int .i64 5, .int .i64 1, .int .i64 1, .int .i64 3, .int .i64 0, .int .i64 0] 3)) (w23.alloc (.cells #[.int .i64 5, .int .i64 1, .int .i64 1, .int .i64 3, .int .i64 0, .int .i64 0] 3)).heap.size 1 (some ⟨w23.heap.size, 0, none⟩) 6 6 (ints W6) := sl_new (xs := [.int .i64 5, .int .i64 1, .int .i64 1, .int .i64 3, .int .i64 0, .int .i64 0]) (heap_alloc_new w23 _) rfl (by unfold maxLen; omega)
  have hc3 : Sl ((w23.alloc (.cells #[.int .i64 5, .int .i64 1, .int .i64 1, .int .i64 3, .int .i64 0, .int .i64 0] 3)).alloc (.cells #[.int .i64 0, .int .i64 2, .int .i64 3] 3)) ((w23.alloc (.cells #[.int .i64 5, .int .i64 1, .int .i64 1, .int .i64 3, .int .i64 0, .int .i64 0] 3)).alloc (.cells #[.int .i64 0, .int .i64 2, .int .i64 3] 3)).heap.size 1 (some ⟨w23.heap.size + 1, 0, none⟩) 3 3 (ints [0, 2, 3]) := by
    have h := heap_alloc_new (w23.alloc (.cells #[.int .i64 5, .int .i64 1, .int .i64 1, .int .i64 3, .int .i64 0, .int .i64 0] 3)) (.cells #[.int .i64 0, .int .i64 2, .int .i64 3] 3)
    rw [World.size_alloc] at h
    exact sl_new (xs := [.int .i64 0, .int .i64 2, .int .i64 3]) h rfl (by unfold maxLen; omega)
  have b12 := Below.tr b1 b2
  refine (cred12 _ _ _ _ _ (((HM.out.below HB.out (Nat.le_refl _)).m).below b12 (Nat.le_refl _)) (Sl.bT hw6 b2) hc3).mono ?_
  replace HB := Lib.hid (Below.tr HB.out b12)
  clear b1 b2 b12 hw6 hc3
  rintro e w24 ⟨Ap, cp, rfl, hs, hb⟩
  replace HB := Lib.hid (Below.tr HB.out hb)
  have Hp := Lib.hid hs
  clear hs hb
  go_wp2_with fail
  refine (tube_ _).mono ?_
  rintro e w25 ⟨rfl, hs, hz, hb⟩
  have HT := Lib.hid hs
  have HZ := Lib.hid hz
  replace HB := Lib.hid (Below.tr HB.out hb)
  replace Hp := Lib.hid (Sl.bT Hp.out hb)
  clear hs hz hb
  go_wp2_with fail
  refine (sees1 _ _ _ HT.out HZ.out).mono ?_
  clear HT HZ
  rintro e w26 ⟨Aq, cq, rfl, hs, hb⟩
  replace HB := Lib.hid (Below.tr HB.out hb)
  replace Hp := Lib.hid (Sl.bT Hp.out hb)
  have Hq := Lib.hid hs
  clear hs hb
  go_wp2_with fail
  refine (cells9 _).mono ?_
  rintro e w' ⟨rfl, rfl⟩
  go_wp2_with fail
  refine (cof3 _).mono ?_
  rintro e w27 ⟨rfl, hb⟩
  replace HB := Lib.hid (Below.tr HB.out hb)
  replace Hp := Lib.hid (Sl.bT Hp.out hb)
  replace Hq := Lib.hid (Sl.bT Hq.out hb)
  clear hb
  go_wp2_with fail
  have b1 : Below w27.heap.size w27 (w27.alloc (.cells #[.int .i64 0] 3)) := Below.al _
  have hn : Sl (w27.alloc (.cells #[.int .i64 0] 3)) (w27.alloc (.cells #[.int .i64 0] 3)).heap.size 1 (some ⟨w27.heap.size, 0, none⟩) 1 1 (ints [0]) := sl_new (xs := [.int .i64 0]) (heap_alloc_new w27 _) rfl (by unfold maxLen; omega)
  refine (same10 [0] _ _ _ _ _ rfl (Sl.bT Hp.out b1) hn).mono ?_
  clear hn Hp
  rintro e w28 ⟨rfl, hb⟩
  have hbb := Below.tr b1 hb
  replace HB := Lib.hid (Below.tr HB.out hbb)
  replace Hq := Lib.hid (Sl.bT Hq.out hbb)
  clear b1 hb hbb
  go_wp2_with fail
  have b1 : Below w28.heap.size w28 (w28.alloc (.cells #[.int .i64 0] 3)) := Below.al _
  have hn : Sl (w28.alloc (.cells #[.int .i64 0] 3)) (w28.alloc (.cells #[.int .i64 0] 3)).heap.size 1 (some ⟨w28.heap.size, 0, none⟩) 1 1 (ints [0]) := sl_new (xs := [.int .i64 0]) (heap_alloc_new w28 _) rfl (by unfold maxLen; omega)
  refine (same10 [0] _ _ _ _ _ rfl (Sl.bT Hq.out b1) hn).mono ?_
  clear hn Hq
  rintro e w29 ⟨rfl, hb⟩
  have hbb := Below.tr b1 hb
  replace HB := Lib.hid (Below.tr HB.out hbb)
  clear b1 hb hbb
  go_wp2_with fail
  refine (two_ _).mono ?_
  rintro e w30 ⟨rfl, hs, hb⟩
  have HS := Lib.hid hs
  replace HB := Lib.hid (Below.tr HB.out hb)
  clear hs hb
  go_wp2_with fail
  refine (netOne _ _ HS.out).mono ?_
  rintro e w31 ⟨rfl, hb⟩
  replace HB := Lib.hid (Below.tr HB.out hb)
  clear hb
  go_wp2_with fail
  clear HS
  refine (scNil _).mono ?_
  rintro e w32 ⟨rfl, hb⟩
  replace HB := Lib.hid (Below.tr HB.out hb)
  clear hb
  go_wp2_with fail
  refine (works_ _ ((HM.out.below HB.out (Nat.le_refl _)).m)).mono ?_
  rintro e w33 ⟨rfl, hb⟩
  replace HB := Lib.hid (Below.tr HB.out hb)
  clear hb
  go_wp2_with fail
  go_ret
  exact ⟨rfl, HB.out⟩
end Go.Proofs.YtcclfhdglhbpcaaGreatDoor
