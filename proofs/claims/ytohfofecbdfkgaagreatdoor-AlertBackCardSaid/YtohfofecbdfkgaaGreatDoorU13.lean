/-
  The walks of Follow and Withdraw, of the program: given what next and drafted return.
-/
import Derived.Test.YtohfofecbdfkgaaGreatDoorU12
import Derived.Test.YtohfofecbdfkgaaGreatDoorU01
namespace Go.Proofs.YtohfofecbdfkgaaGreatDoor
open Go.RowKit Al

/-- What next says of an alert at a time, in this world and those that grow from it. -/
def NextSays (a : Alr) (A : Option Addr) (c : Nat) (t : Int) (b : Alr) (k : Int) (w : World) : Prop :=
  ∀ w', Below w.heap.size w w' → Calls Tryz.prog 54 #[a.val A c, .int .i64 t] w' (NextT b k w')

/-- The end of a function whose result is written to a block of cells, a new block behind it. -/
theorem finCellsA {P : Program} {fn : Func} {R : Ending → World → Prop} {a : Act} {w : World} {o : Obj} (b : Nat) (vs : List Value) (v : Value) (hd : a.defers = []) (hb : b < w.heap.size)
    (hres : ∀ W : World, (∀ j (hj : j < vs.length), W.cell? ⟨b, j, none⟩ = some vs[j]) → (results fn a.tmps).run P W = .ok v W)
    (his : ∀ j, j < vs.length → (w.cell? ⟨b, j, none⟩).isSome = true) (hR : R (.returned v) ((w.setCells b 0 vs).alloc o)) : bodyPost P fn R .ret a ((w.setCells b 0 vs).alloc o) := by
  refine bodyPost_ret (hres _ fun j hj => ?_) hd hR
  have h1 := World.cell?_setCells_in b vs 0 w (fun j hj => by rw [Nat.zero_add]; exact his j hj) j hj
  rw [Nat.zero_add] at h1
  rw [← h1]
  have hb' : b < (w.setCells b 0 vs).heap.size := Nat.lt_of_lt_of_le hb (below_setCells (n := 0) (Nat.zero_le _) vs 0 w w (Below.refl _ _)).size
  exact ((Below.refl (w.setCells b 0 vs).heap.size _).alloc (Nat.le_refl _) o).cell (p := ⟨b, j, none⟩) hb'

set_option maxRecDepth 100000 in
set_option maxHeartbeats 1000000 in
theorem Withdraw_e (a : Alr) (A : Option Addr) (c : Nat) (t k : Int) (w : World) (hk : (k == 0) = false) (hn : NextSays a A c t Al.zero k w) :
    Calls Tryz.prog 17 #[a.val A c, .int .i64 t] w (OwnT w.heap.size Al.zero k w) := by
  have hk' : (k != 0) = true := by rw [bne, hk]; rfl
  go_enter Tryz.func17, Tryz.ntmps17
  go_wp2_with fail
  refine (hn _ (by (repeat (first | exact Below.refl _ _ | assumption | refine below_drewN ?_ _ | refine Below.drew ?_ | refine Below.setCell ?_ (by first | omega | (simp; done) | (simp; omega)) _ | refine Below.alloc ?_ (by first | omega | (simp; done) | (simp; omega)) _)))).mono ?_
  rintro e w1 ⟨rfl, hb⟩
  obtain ⟨hcw1, hfw1⟩ := bcell hb
  have Hw1 := Lib.hid ((show Below w.heap.size w _ from (by repeat (first | exact Below.refl _ _ | assumption | refine below_drewN ?_ _ | refine Below.drew ?_ | refine Below.setCell ?_ (by first | omega | (simp; done) | (simp; omega)) _ | refine Below.alloc ?_ (by first | omega | (simp; done) | (simp; omega)) _))).trans (hb.mono (by first | omega | (simp; done) | (simp; omega))))
  have hzw1 := hb.size
  try simp at hzw1
  clear hb
  have hz3 : w.heap.size + 1 < w1.heap.size := by omega
  go_wp2_with fail
  refine finCellsA (w := w1) (w.heap.size + 1) (Al.zero.lst none 0) (.tuple #[Al.zero.val none 0, .int .i64 k]) rfl hz3 ?_ ?_ (show OwnT w.heap.size Al.zero k w _ _ from ⟨none, 0, rfl, zero_row _ _, ?_⟩)
  · intro W hW
    have r0 := hW 0 (by simp)
    have r1 := hW 1 (by simp)
    have r2 := hW 2 (by simp)
    have r3 := hW 3 (by simp)
    have r4 := hW 4 (by simp)
    have r5 := hW 5 (by simp)
    have r6 := hW 6 (by simp)
    have r7 := hW 7 (by simp)
    have r8 := hW 8 (by simp)
    clear hW
    simp only [List.getElem_cons_zero, List.getElem_cons_succ] at r0 r1 r2 r3 r4 r5 r6 r7 r8
    simp [results, Tryz.results17, go_sem, r0, r1, r2, r3, r4, r5, r6, r7, r8]
  · refine lt9 ?_
    simp [go_sem, hcw1]
  · have hb := below_setCells (n := w.heap.size) (b := w.heap.size + 1) (by omega) (Al.zero.lst none 0) 0 w w1 Hw1.out
    exact hb.alloc hb.size _

set_option maxRecDepth 100000 in
set_option maxHeartbeats 1000000 in
theorem Follow_e (a : Alr) (A : Option Addr) (c : Nat) (t cn co g : Int) (D : Option Addr) (dl dc : Nat) (k : Int) (w : World) (hk : (k == 0) = false) (hn : NextSays a A c t Al.zero k w) :
    Calls Tryz.prog 48 #[a.val A c, .int .i64 t, .agg #[.int .i64 cn, .int .i64 co], .int .i64 g, .slice D dl dc] w (OwnT w.heap.size Al.zero k w) := by
  have hk' : (k != 0) = true := by rw [bne, hk]; rfl
  go_enter Tryz.func48, Tryz.ntmps48
  go_wp2_with fail
  refine (hn _ (by (repeat (first | exact Below.refl _ _ | assumption | refine below_drewN ?_ _ | refine Below.drew ?_ | refine Below.setCell ?_ (by first | omega | (simp; done) | (simp; omega)) _ | refine Below.alloc ?_ (by first | omega | (simp; done) | (simp; omega)) _)))).mono ?_
  rintro e w1 ⟨rfl, hb⟩
  obtain ⟨hcw1, hfw1⟩ := bcell hb
  have Hw1 := Lib.hid ((show Below w.heap.size w _ from (by repeat (first | exact Below.refl _ _ | assumption | refine below_drewN ?_ _ | refine Below.drew ?_ | refine Below.setCell ?_ (by first | omega | (simp; done) | (simp; omega)) _ | refine Below.alloc ?_ (by first | omega | (simp; done) | (simp; omega)) _))).trans (hb.mono (by first | omega | (simp; done) | (simp; omega))))
  have hzw1 := hb.size
  try simp at hzw1
  clear hb
  have hz3 : w.heap.size + 2 < w1.heap.size := by omega
  go_wp2_with fail
  refine finCellsA (w := w1) (w.heap.size + 1 + 1) (Al.zero.lst none 0) (.tuple #[Al.zero.val none 0, .int .i64 k]) rfl hz3 ?_ ?_ (show OwnT w.heap.size Al.zero k w _ _ from ⟨none, 0, rfl, zero_row _ _, ?_⟩)
  · intro W hW
    have r0 := hW 0 (by simp)
    have r1 := hW 1 (by simp)
    have r2 := hW 2 (by simp)
    have r3 := hW 3 (by simp)
    have r4 := hW 4 (by simp)
    have r5 := hW 5 (by simp)
    have r6 := hW 6 (by simp)
    have r7 := hW 7 (by simp)
    have r8 := hW 8 (by simp)
    clear hW
    simp only [List.getElem_cons_zero, List.getElem_cons_succ] at r0 r1 r2 r3 r4 r5 r6 r7 r8
    simp [results, Tryz.results48, go_sem, r0, r1, r2, r3, r4, r5, r6, r7, r8]
  · refine lt9 ?_
    simp [go_sem, hcw1]
  · have hb := below_setCells (n := w.heap.size) (b := w.heap.size + 1 + 1) (by omega) (Al.zero.lst none 0) 0 w w1 Hw1.out
    exact hb.alloc hb.size _

/-- What drafted makes of an alert. -/
def draftA (a : Alr) : Alr := if okA a then a else Al.zero
theorem draftA_t {a : Alr} (h : okA a = true) : draftA a = a := by unfold draftA; rw [h]; rfl
theorem draftA_f {a : Alr} (h : okA a = false) : draftA a = Al.zero := by unfold draftA; rw [h]; rfl
/-- What drafted says of an alert, in this world and those that grow from it. -/
def DraftSays (a : Alr) (A : Option Addr) (c : Nat) (x : Alr) (k : Int) (w : World) : Prop :=
  ∀ w', Below w.heap.size w w' → Calls Tryz.prog 55 #[a.val A c] w' (OwnT w'.heap.size x k w')
theorem drafted_ (a : Alr) (A : Option Addr) (c : Nat) (w : World) (h : AIn w a A c) : DraftSays a A c (draftA a) (errA (okA a) 101) w := by
  intro w' hb
  by_cases hk : okA a = true
  · rw [draftA_t hk, errA_t hk]; exact drafted_t a A c w' hk (h.below hb)
  · have hk' : okA a = false := by simpa using hk
    rw [draftA_f hk', errA_f hk']; exact drafted_f a A c w' hk' (h.below hb)

set_option maxRecDepth 100000 in
set_option maxHeartbeats 1000000 in
theorem Withdraw_n (a : Alr) (A : Option Addr) (c : Nat) (t : Int) (ev : ByteArray) (ver tm cn co grid before : Int) (x : Alr) (k : Int) (w : World) (hn : NextSays a A c t ⟨ev, ver, tm, cn, co, grid, [], false, before⟩ 0 w)
    (hd : DraftSays ⟨ev, ver, tm, cn, co, grid, [], true, before⟩ none 0 x k w) :
    Calls Tryz.prog 17 #[a.val A c, .int .i64 t] w (OwnT w.heap.size x k w) := by
  go_enter Tryz.func17, Tryz.ntmps17
  go_wp2_with fail
  refine (hn _ (by (repeat (first | exact Below.refl _ _ | assumption | refine below_drewN ?_ _ | refine Below.drew ?_ | refine Below.setCell ?_ (by first | omega | (simp; done) | (simp; omega)) _ | refine Below.alloc ?_ (by first | omega | (simp; done) | (simp; omega)) _)))).mono ?_
  rintro e w1 ⟨rfl, hb⟩
  obtain ⟨hcw1, hfw1⟩ := bcell hb
  have Hw1 := Lib.hid ((show Below w.heap.size w _ from (by repeat (first | exact Below.refl _ _ | assumption | refine below_drewN ?_ _ | refine Below.drew ?_ | refine Below.setCell ?_ (by first | omega | (simp; done) | (simp; omega)) _ | refine Below.alloc ?_ (by first | omega | (simp; done) | (simp; omega)) _))).trans (hb.mono (by first | omega | (simp; done) | (simp; omega))))
  have hzw1 := hb.size
  try simp at hzw1
  clear hb
  have hz3 : w.heap.size + 1 < w1.heap.size := by omega
  have hz4 : w.heap.size < w1.heap.size := by omega
  go_wp2_with fail
  refine (hd _ (by repeat (first | exact Below.refl _ _ | exact (Hw1).out | refine below_drewN ?_ _ | refine Below.drew ?_ | refine Below.setCell ?_ (by first | omega | (simp; done) | (simp; omega)) _ | refine Below.alloc ?_ (by first | omega | (simp; done) | (simp; omega)) _))).mono ?_
  rintro e w2 ⟨A', c', rfl, hown, hbw⟩
  obtain ⟨hcw2, hfw2⟩ := bcell hbw
  have HB := Lib.hid ((show Below w.heap.size w _ from (by repeat (first | exact Below.refl _ _ | exact (Hw1).out | refine below_drewN ?_ _ | refine Below.drew ?_ | refine Below.setCell ?_ (by first | omega | (simp; done) | (simp; omega)) _ | refine Below.alloc ?_ (by first | omega | (simp; done) | (simp; omega)) _))).trans (hbw.mono (by first | omega | (simp; done) | (simp; omega))))
  have HO := Lib.hid hown
  have hz2 := hbw.size
  simp at hz2
  clear hbw hown
  have hz5 : w.heap.size + 1 < w2.heap.size := by omega
  go_wp2_with fail
  refine finCells (w := w2) (w.heap.size + 1) (x.lst A' c') (.tuple #[x.val A' c', .int .i64 k]) rfl ?_ ?_ (show OwnT w.heap.size x k w _ _ from ⟨A', c', rfl, ?_, ?_⟩)
  · intro W hW
    have r0 := hW 0 (by simp)
    have r1 := hW 1 (by simp)
    have r2 := hW 2 (by simp)
    have r3 := hW 3 (by simp)
    have r4 := hW 4 (by simp)
    have r5 := hW 5 (by simp)
    have r6 := hW 6 (by simp)
    have r7 := hW 7 (by simp)
    have r8 := hW 8 (by simp)
    clear hW
    simp only [List.getElem_cons_zero, List.getElem_cons_succ] at r0 r1 r2 r3 r4 r5 r6 r7 r8
    simp [results, Tryz.results17, go_sem, r0, r1, r2, r3, r4, r5, r6, r7, r8]
  · refine lt9 ?_
    have hz6 : w.heap.size + 1 < w1.heap.size + 1 := by omega
    simp [go_sem, hcw1, hcw2, hz3, hz6]
  · refine own_more (base := w1.heap.size + 1) (own_setCells ?_ _ _ _ ?_) ?_
    · omega
    · have := HO.out
      simp at this
      exact this
    · omega
  · exact below_setCells (by omega) _ _ _ _ HB.out

set_option maxRecDepth 100000 in
set_option maxHeartbeats 1000000 in
theorem Follow_n (a : Alr) (A : Option Addr) (c : Nat) (t cn co g : Int) (l : List Int) (D : Option Addr) (dc : Nat) (ev : ByteArray) (ver tm cn' co' grid before : Int) (x : Alr) (k : Int) (w : World) (hn : NextSays a A c t ⟨ev, ver, tm, cn', co', grid, [], false, before⟩ 0 w)
    (hd : DraftSays ⟨ev, ver, tm, cn, co, g, l, false, before⟩ D dc x k w) :
    Calls Tryz.prog 48 #[a.val A c, .int .i64 t, .agg #[.int .i64 cn, .int .i64 co], .int .i64 g, .slice D l.length dc] w (OwnT w.heap.size x k w) := by
  go_enter Tryz.func48, Tryz.ntmps48
  go_wp2_with fail
  refine (hn _ (by (repeat (first | exact Below.refl _ _ | assumption | refine below_drewN ?_ _ | refine Below.drew ?_ | refine Below.setCell ?_ (by first | omega | (simp; done) | (simp; omega)) _ | refine Below.alloc ?_ (by first | omega | (simp; done) | (simp; omega)) _)))).mono ?_
  rintro e w1 ⟨rfl, hb⟩
  obtain ⟨hcw1, hfw1⟩ := bcell hb
  have Hw1 := Lib.hid ((show Below w.heap.size w _ from (by repeat (first | exact Below.refl _ _ | assumption | refine below_drewN ?_ _ | refine Below.drew ?_ | refine Below.setCell ?_ (by first | omega | (simp; done) | (simp; omega)) _ | refine Below.alloc ?_ (by first | omega | (simp; done) | (simp; omega)) _))).trans (hb.mono (by first | omega | (simp; done) | (simp; omega))))
  have hzw1 := hb.size
  try simp at hzw1
  clear hb
  have hz3 : w.heap.size + 1 + 1 < w1.heap.size := by omega
  have hz4 : w.heap.size < w1.heap.size := by omega
  have hz7 : w.heap.size + 1 < w1.heap.size := by omega
  go_wp2_with fail
  refine (hd _ (by repeat (first | exact Below.refl _ _ | exact (Hw1).out | refine below_drewN ?_ _ | refine Below.drew ?_ | refine Below.setCell ?_ (by first | omega | (simp; done) | (simp; omega)) _ | refine Below.alloc ?_ (by first | omega | (simp; done) | (simp; omega)) _))).mono ?_
  rintro e w2 ⟨A', c', rfl, hown, hbw⟩
  obtain ⟨hcw2, hfw2⟩ := bcell hbw
  have HB := Lib.hid ((show Below w.heap.size w _ from (by repeat (first | exact Below.refl _ _ | exact (Hw1).out | refine below_drewN ?_ _ | refine Below.drew ?_ | refine Below.setCell ?_ (by first | omega | (simp; done) | (simp; omega)) _ | refine Below.alloc ?_ (by first | omega | (simp; done) | (simp; omega)) _))).trans (hbw.mono (by first | omega | (simp; done) | (simp; omega))))
  have HO := Lib.hid hown
  have hz2 := hbw.size
  simp at hz2
  clear hbw hown
  have hz5 : w.heap.size + 1 + 1 < w2.heap.size := by omega
  go_wp2_with fail
  refine finCells (w := w2) (w.heap.size + 1 + 1) (x.lst A' c') (.tuple #[x.val A' c', .int .i64 k]) rfl ?_ ?_ (show OwnT w.heap.size x k w _ _ from ⟨A', c', rfl, ?_, ?_⟩)
  · intro W hW
    have r0 := hW 0 (by simp)
    have r1 := hW 1 (by simp)
    have r2 := hW 2 (by simp)
    have r3 := hW 3 (by simp)
    have r4 := hW 4 (by simp)
    have r5 := hW 5 (by simp)
    have r6 := hW 6 (by simp)
    have r7 := hW 7 (by simp)
    have r8 := hW 8 (by simp)
    clear hW
    simp only [List.getElem_cons_zero, List.getElem_cons_succ] at r0 r1 r2 r3 r4 r5 r6 r7 r8
    simp [results, Tryz.results48, go_sem, r0, r1, r2, r3, r4, r5, r6, r7, r8]
  · refine lt9 ?_
    have hz6 : w.heap.size + 1 + 1 < w1.heap.size + 1 := by omega
    simp [go_sem, hcw1, hcw2, hz3, hz6]
  · refine own_more (base := w1.heap.size + 1) (own_setCells ?_ _ _ _ ?_) ?_
    · omega
    · have := HO.out
      simp at this
      exact this
    · omega
  · exact below_setCells (by omega) _ _ _ _ HB.out
end Go.Proofs.YtohfofecbdfkgaaGreatDoor

/-
  Plain facts on keys: the secret of a key by the extended algorithm of Euclid, and by search.
-/
namespace Go.Proofs.YtohfofecbdfkgaaGreatDoor
namespace Al

/-- d is the secret of the exponent e, the multiple being L. -/
def Sec (L e d : Int) : Prop := 1 ≤ d ∧ d ≤ L ∧ L ∣ d * e - 1
/-- The secret, by search. -/
def secretI (L e : Int) : Int := (((List.range (L.toNat + 1)).find? fun (d : Nat) => decide (1 ≤ d) && decide (((d : Int) * e - 1) % L = 0)).getD 0 : Nat)

theorem dvd_small {L z : Int} (h : L ∣ z) (h1 : -L < z) (h2 : z < L) : z = 0 := by
  obtain ⟨k, rfl⟩ := h
  by_cases hk : k = 0
  · subst hk; simp
  · exfalso
    have hL : 0 < L := by omega
    rcases Int.lt_or_gt_of_ne hk with hk | hk
    · have := Int.mul_le_mul_of_nonneg_left (show k ≤ -1 by omega) (Int.le_of_lt hL)
      omega
    · have := Int.mul_le_mul_of_nonneg_left (show 1 ≤ k by omega) (Int.le_of_lt hL)
      omega
theorem Sec.uniq {L e d d' : Int} (h : Sec L e d) (h' : Sec L e d') : d = d' := by
  have h1 : L ∣ d * (d' * e - 1) := Int.dvd_mul_of_dvd_right h'.2.2
  have h2 : L ∣ d' * (d * e - 1) := Int.dvd_mul_of_dvd_right h.2.2
  have h3 := Int.dvd_sub h2 h1
  have e3 : d' * (d * e - 1) - d * (d' * e - 1) = d - d' := by
    rw [Int.mul_sub, Int.mul_sub, Int.mul_left_comm d' d e, Int.mul_one, Int.mul_one]; omega
  rw [e3] at h3
  have := dvd_small h3 (by have := h.1; have := h'.2.1; omega) (by have := h'.1; have := h.2.1; omega)
  omega
theorem secretI_eq {L e d : Int} (h : Sec L e d) : secretI L e = d := by
  have hd : ((d.toNat : Nat) : Int) = d := Int.toNat_of_nonneg (by have := h.1; omega)
  have hin : ((List.range (L.toNat + 1)).find? fun (d : Nat) => decide (1 ≤ d) && decide (((d : Int) * e - 1) % L = 0)).isSome = true := by
    rw [List.find?_isSome]
    refine ⟨d.toNat, List.mem_range.2 (by have := h.1; have := h.2.1; omega), ?_⟩
    rw [hd]
    simp only [Bool.and_eq_true, decide_eq_true_eq]
    exact ⟨by have := h.1; omega, Int.emod_eq_zero_of_dvd h.2.2⟩
  obtain ⟨d', hf⟩ := Option.isSome_iff_exists.1 hin
  have hp := List.find?_some hf
  have hm := List.mem_of_find?_eq_some hf
  simp only [Bool.and_eq_true, decide_eq_true_eq] at hp
  have hs : Sec L e d' := ⟨by omega, by have := List.mem_range.1 hm; have := h.1; have := h.2.1; omega, Int.dvd_of_emod_eq_zero hp.2⟩
  unfold secretI
  rw [hf]
  exact hs.uniq h

/-- What holds at each round of the extended algorithm. -/
structure Euc (L e a b x y : Int) : Prop where
  pos : 1 ≤ a
  nn : 0 ≤ b
  gcd : Nat.gcd a.toNat b.toNat = Nat.gcd L.toNat e.toNat
  dx : L ∣ x * e - a
  dy : L ∣ y * e - b
  det : (0 ≤ y ∧ x ≤ 0 ∧ y * a - x * b = L) ∨ (y ≤ 0 ∧ 0 ≤ x ∧ y * a - x * b = -L)
  bx : -L ≤ x ∧ x ≤ L
  ba : a ≤ L
  bb : b ≤ L

theorem Euc.start {L e : Int} (hL : 1 ≤ L) (he : 0 ≤ e) : Euc L e L (e % L) 0 1 where
  pos := hL
  nn := Int.emod_nonneg _ (by omega)
  gcd := by
    obtain ⟨l, rfl⟩ := Int.eq_ofNat_of_zero_le (a := L) (by omega)
    obtain ⟨k, rfl⟩ := Int.eq_ofNat_of_zero_le he
    rw [← Int.natCast_emod, Int.toNat_natCast, Int.toNat_natCast, Int.toNat_natCast, gcdI_step, Nat.gcd_comm]
  dx := by
    rw [Int.zero_mul, Int.zero_sub]
    exact Int.dvd_neg.2 (Int.dvd_refl L)
  dy := by rw [Int.one_mul]; exact Int.dvd_self_sub_emod
  det := .inl ⟨by omega, by omega, by rw [Int.one_mul, Int.zero_mul]; omega⟩
  bx := by omega
  ba := Int.le_refl _
  bb := Int.le_of_lt (Int.emod_lt_of_pos _ (by omega))

theorem Euc.by_ {L e a b x y : Int} (h : Euc L e a b x y) : -L ≤ y ∧ y ≤ L := by
  rcases h.det with ⟨h1, h2, h3⟩ | ⟨h1, h2, h3⟩
  · have e1 := Int.mul_le_mul_of_nonneg_left h.pos h1
    have e2 := Int.mul_nonneg (show 0 ≤ -x by omega) h.nn
    rw [Int.neg_mul] at e2
    omega
  · have e1 := Int.mul_le_mul_of_nonneg_left h.pos (show 0 ≤ -y by omega)
    have e2 := Int.mul_nonneg h2 h.nn
    rw [Int.neg_mul, Int.neg_mul] at e1
    omega

/-- What a round computes stays small. -/
structure Small (L a b y n : Int) : Prop where
  n0 : 0 ≤ n
  nL : n ≤ L
  nb0 : 0 ≤ n * b
  nba : n * b ≤ a
  ny1 : -L ≤ n * y
  ny2 : n * y ≤ L
  r0 : 0 ≤ a - n * b
  rb : a - n * b < b

theorem Euc.small {L e a b x y : Int} (h : Euc L e a b x y) (hb : 0 < b) : Small L a b y (a / b) := by
  have n0 : 0 ≤ a / b := Int.ediv_nonneg (by have := h.pos; omega) (by omega)
  have hm := Int.emod_add_mul_ediv a b
  have hlt := Int.emod_lt_of_pos a hb
  have hnn := Int.emod_nonneg a (show b ≠ 0 by omega)
  rw [Int.mul_comm b] at hm
  have nb : a / b ≤ a / b * b := by
    have := Int.mul_le_mul_of_nonneg_left (show 1 ≤ b by omega) n0
    omega
  have na : a / b ≤ a := by omega
  have ba := h.ba
  have key : -L ≤ a / b * y ∧ a / b * y ≤ L := by
    rcases h.det with ⟨h1, h2, h3⟩ | ⟨h1, h2, h3⟩
    · have e1 := Int.mul_le_mul_of_nonneg_right na h1
      have e2 := Int.mul_nonneg (show 0 ≤ -x by omega) h.nn
      have e3 := Int.mul_nonneg n0 h1
      rw [Int.neg_mul] at e2
      rw [Int.mul_comm a y] at e1
      omega
    · have e1 := Int.mul_le_mul_of_nonneg_right na (show 0 ≤ -y by omega)
      have e2 := Int.mul_nonneg h2 h.nn
      have e3 := Int.mul_nonneg n0 (show 0 ≤ -y by omega)
      rw [Int.mul_neg, Int.mul_neg, Int.mul_comm a y] at e1
      rw [Int.mul_neg] at e3
      omega
  exact ⟨n0, by omega, by omega, by omega, key.1, key.2, by omega, by omega⟩

theorem Euc.next {L e a b x y : Int} (h : Euc L e a b x y) (hb : 0 < b) : Euc L e b (a - a / b * b) y (x - a / b * y) := by
  have hs := h.small hb
  refine ⟨by omega, hs.r0, ?_, h.dy, ?_, ?_, h.by_, h.bb, ?_⟩
  · rw [← h.gcd]
    have hm := Int.emod_add_mul_ediv a b
    rw [Int.mul_comm b] at hm
    have e1 : a - a / b * b = a % b := by omega
    rw [e1]
    obtain ⟨c, rfl⟩ := Int.eq_ofNat_of_zero_le (a := a) (by have := h.pos; omega)
    obtain ⟨d, rfl⟩ := Int.eq_ofNat_of_zero_le h.nn
    rw [← Int.natCast_emod, Int.toNat_natCast, Int.toNat_natCast, Int.toNat_natCast, gcdI_step]
  · have := Int.dvd_sub h.dx (Int.dvd_mul_of_dvd_right (b := a / b) h.dy)
    have e1 : x * e - a - a / b * (y * e - b) = (x - a / b * y) * e - (a - a / b * b) := by
      rw [Int.mul_sub, Int.sub_mul, Int.mul_assoc]; omega
    rw [← e1]
    exact this
  · have n0 := hs.n0
    have e1 : (x - a / b * y) * b - y * (a - a / b * b) = -(y * a - x * b) := by
      rw [Int.sub_mul, Int.mul_sub, Int.mul_assoc, Int.mul_left_comm y (a / b) b]; omega
    rcases h.det with ⟨h1, h2, h3⟩ | ⟨h1, h2, h3⟩
    · refine .inr ⟨?_, h1, by omega⟩
      have := Int.mul_nonneg n0 h1
      omega
    · refine .inl ⟨?_, h1, by omega⟩
      have := Int.mul_nonneg n0 (show 0 ≤ -y by omega)
      rw [Int.mul_neg] at this
      omega
  · have := hs.rb
    have := h.bb
    omega

/-- At the end of the rounds: what is left is the greatest common divisor. -/
theorem Euc.last {L e a x y : Int} (h : Euc L e a 0 x y) (hg : gcdI L e = 1) : L ∣ x * e - 1 := by
  have hg' : Nat.gcd L.toNat e.toNat = 1 := by unfold gcdI at hg; omega
  have h1 := h.gcd
  rw [hg', Int.toNat_zero, Nat.gcd_zero_right] at h1
  have h2 := h.pos
  have h3 : a = 1 := by omega
  rw [← h3]
  exact h.dx
/-- The secret out of the last x. -/
theorem sec_of {L e x : Int} (hL : 2 ≤ L) (h : L ∣ x * e - 1) : Sec L e (if x.tmod L < 1 then x.tmod L + L else x.tmod L) := by
  have hd : L ∣ x - x.tmod L := Int.dvd_self_sub_tmod
  have hr : -L < x.tmod L ∧ x.tmod L < L := by
    by_cases hx : 0 ≤ x
    · rw [Int.tmod_eq_emod_of_nonneg hx]
      exact ⟨by have := Int.emod_nonneg x (show L ≠ 0 by omega); omega, Int.emod_lt_of_pos _ (by omega)⟩
    · obtain ⟨z, rfl⟩ : ∃ z, x = -z := ⟨-x, by omega⟩
      rw [Int.neg_tmod, Int.tmod_eq_emod_of_nonneg (by omega)]
      have := Int.emod_nonneg z (show L ≠ 0 by omega)
      have := Int.emod_lt_of_pos z (show 0 < L by omega)
      omega
  have hm : ∀ z, L ∣ x - z → L ∣ z * e - 1 := by
    intro z hz
    have := Int.dvd_sub h (Int.dvd_mul_of_dvd_left (c := e) hz)
    have e1 : x * e - 1 - (x - z) * e = z * e - 1 := by rw [Int.sub_mul]; omega
    rw [← e1]
    exact this
  split
  · refine ⟨by omega, by omega, hm _ ?_⟩
    have := Int.dvd_sub hd (Int.dvd_refl L)
    have e1 : x - x.tmod L - L = x - (x.tmod L + L) := by omega
    rw [← e1]
    exact this
  · exact ⟨by omega, by omega, hm _ hd⟩

/-- There is an inverse. -/
theorem inverse_nat (a b : Nat) : ∃ x y : Int, x * a + y * b = (Nat.gcd a b : Nat) := by
  induction a, b using Nat.gcd.induction with
  | H0 n => exact ⟨0, 1, by simp⟩
  | H1 m n hm ih =>
    obtain ⟨x, y, h⟩ := ih
    refine ⟨y - x * (n / m : Nat), x, ?_⟩
    rw [Nat.gcd_rec, ← h]
    have h1 : ((n % m : Nat) : Int) = n - m * (n / m : Nat) := by
      have := Nat.mod_add_div n m
      rw [← Int.natCast_mul]; omega
    rw [h1, Int.sub_mul, Int.mul_sub, Int.mul_assoc, Int.mul_comm (m : Int) ((n / m : Nat) : Int)]
    omega
/-- Some multiple of L, and 1, is a multiple of e. -/
theorem multiple {L e : Int} (hL : 0 ≤ L) (he : 1 ≤ e) (hg : gcdI L e = 1) : ∃ k : Nat, (k : Int) < e ∧ (1 + k * L) % e = 0 := by
  obtain ⟨l, rfl⟩ := Int.eq_ofNat_of_zero_le hL
  obtain ⟨m, rfl⟩ := Int.eq_ofNat_of_zero_le (a := e) (by omega)
  obtain ⟨x, y, h⟩ := inverse_nat l m
  have hg' : Nat.gcd l m = 1 := by rw [gcdI_nat] at hg; omega
  rw [hg'] at h
  have hnn := Int.emod_nonneg (-x) (show (m : Int) ≠ 0 by omega)
  refine ⟨((-x) % m).toNat, by rw [Int.toNat_of_nonneg hnn]; exact Int.emod_lt_of_pos _ (by omega), ?_⟩
  rw [Int.toNat_of_nonneg hnn]
  apply Int.emod_eq_zero_of_dvd
  have h1 : (m : Int) ∣ -x - (-x) % m := Int.dvd_self_sub_emod
  have h2 := Int.dvd_mul_of_dvd_left (c := (l : Int)) h1
  have h3 : (m : Int) ∣ y * m := Int.dvd_mul_left _ _
  have h4 := Int.dvd_sub h3 h2
  have e1 : y * m - (-x - (-x) % m) * l = 1 + (-x) % m * l := by rw [Int.sub_mul, Int.neg_mul]; omega
  rw [← e1]
  exact h4
/-- The quotient that the search comes to is the secret. -/
theorem sec_search {L e : Int} {k : Nat} (hL : 1 ≤ L) (he : 1 ≤ e) (hk : (k : Int) < e) (h : (1 + k * L) % e = 0) : Sec L e ((1 + k * L) / e) := by
  have hd := Int.emod_add_mul_ediv (1 + k * L) e
  rw [h] at hd
  have hkL := Int.mul_nonneg (Int.natCast_nonneg k) (show 0 ≤ L by omega)
  generalize (1 + k * L) / e = d at *
  rw [Int.mul_comm e d] at hd
  have h1 : 1 ≤ d := by
    by_cases hd0 : d ≤ 0
    · have := Int.mul_nonneg (show 0 ≤ -d by omega) (show 0 ≤ e by omega)
      rw [Int.neg_mul] at this
      omega
    · omega
  refine ⟨h1, ?_, ⟨k, by rw [Int.mul_comm L k]; omega⟩⟩
  by_cases hdL : L < d
  · have e1 := Int.mul_le_mul_of_nonneg_right (show L + 1 ≤ d by omega) (show 0 ≤ e by omega)
    have e2 := Int.mul_le_mul_of_nonneg_right (show (k : Int) ≤ e - 1 by omega) (show 0 ≤ L by omega)
    rw [Int.add_mul] at e1
    rw [Int.sub_mul] at e2
    rw [Int.mul_comm L e] at e1
    omega
  · omega

/-- Do two primes and an exponent make a key? -/
def keyB (p q e : Int) : Bool := primeB p && primeB q && !(p == q) && inB e 3 32749 && (gcdI ((p - 1) * (q - 1)) e == 1)
/-- The least common multiple of p - 1 and q - 1. -/
def lcmI (p q : Int) : Int := (p - 1) / gcdI (p - 1) (q - 1) * (q - 1)

end Al
end Go.Proofs.YtohfofecbdfkgaaGreatDoor
