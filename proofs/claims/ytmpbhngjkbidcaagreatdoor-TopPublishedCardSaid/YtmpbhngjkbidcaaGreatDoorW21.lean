/-
  The walk of the chapter's examples.
-/
import Derived.Test.YtmpbhngjkbidcaaGreatDoorW19
import Derived.Test.YtmpbhngjkbidcaaGreatDoorW20
namespace Go.Proofs.YtmpbhngjkbidcaaGreatDoor
open Go.RowKit Al

theorem fst_ok : okA fstA = true := by decide
theorem key1_ok : keyB 3 11 7 = true := by decide
theorem key2_no : keyB 3 7 3 = false := by decide
theorem sec1 : secretI (lcmI 3 11) 7 = 3 := by decide
def fstL : List UInt8 := [97, 108, 101, 114, 116, 32, 115, 49, 32, 49, 10, 116, 105, 109, 101, 32, 53, 10, 99, 104, 97, 110, 99, 101, 32, 49, 32, 50, 48, 10, 103, 114, 105, 100, 32, 49, 10, 99, 101, 108, 108, 115, 32, 48, 32, 51, 10, 98, 101, 102, 111, 114, 101, 32, 48, 10, 101, 110, 100, 10]
theorem it0 : Lib.itoa 0 = [48] := by simp [Lib.itoa, Lib.decDigits]
theorem it1 : Lib.itoa 1 = [49] := by simp [Lib.itoa, Lib.decDigits]
theorem it3 : Lib.itoa 3 = [51] := by simp [Lib.itoa, Lib.decDigits]
theorem it5 : Lib.itoa 5 = [53] := by simp [Lib.itoa, Lib.decDigits]
theorem it20 : Lib.itoa 20 = [50, 48] := by simp [Lib.itoa, Lib.decDigits]
theorem fst_text : textL fstA = fstL := by
  simp [textL, lines, headL, timeL, chanceL, gridL, whereL, beforeL, endL, rowL, fstA, it0, it1, it3, it5, it20, fstL]
set_option maxRecDepth 20000 in
theorem fst_dig : digA fstA = 2145405888 := by
  unfold digA
  rw [fst_text]
  decide
def fstS : List (Int × Int) := [(0, 21), (1, 33), (2, 12)]
def fstN : Ntc := ⟨fstA, fstS⟩
theorem fst_sg : sgN ringK ringS (digA fstA) 3 = fstS := by
  rw [fst_dig]
  decide
theorem ring_ok : rollOk ringK 2 = true := by decide
theorem fst_note : noticeE ringK 2 fstN = 0 := by
  refine noticeE_ok (n := fstN) fst_ok ?_ (by decide)
  show sigsOk ringK (digA fstA) (-1) fstS = true
  rw [fst_dig]
  decide
theorem fst_post : postE ringK 2 [] fstN = 0 := by
  rw [postE_t fst_note]
  decide
theorem fst_post2 : postE ringK 2 [fstN] fstN = 105 := by
  rw [postE_t fst_note]
  decide
/-- The alert that withdraws the first one. -/
def fstW : Alr := ⟨⟨#[115, 49]⟩, 2, 6, 1, 20, 1, [], true, 2145405888⟩
theorem fstW_ok : okA fstW = true := by decide
theorem mk1_ (w : World) : Calls Tryz.prog 32 #[.int .i64 3, .int .i64 11, .int .i64 7] w fun e w' => e = .returned (.tuple #[.agg #[.int .i64 33, .int .i64 7], .int .i64 3, .int .i64 0]) ∧ Below w.heap.size w w' := by
  have := makeKey_yes 3 11 7 key1_ok w
  rw [sec1] at this
  exact this
theorem mk2_ (w : World) : Calls Tryz.prog 32 #[.int .i64 3, .int .i64 7, .int .i64 3] w fun e w' => e = .returned (.tuple #[.agg #[.int .i64 0, .int .i64 0], .int .i64 0, .int .i64 100]) ∧ Below w.heap.size w w' :=
  makeKey_no 3 7 3 key2_no w
theorem fst_in {w : World} {base : Nat} {A : Option Addr} {c : Nat} (h : ARow w base fstA A c) : AIn w fstA A c := own_in (by decide) h
theorem fstNext (A : Option Addr) (c : Nat) (w : World) (h : AIn w fstA A c) (hr : Rdy w) : NextSays fstA A c 6 ⟨⟨#[115, 49]⟩, 2, 6, 1, 20, 1, [], false, 2145405888⟩ 0 w := by
  intro w' hb
  have := next_d ⟨#[115, 49]⟩ 1 5 1 20 1 0 2145405888 [0, 3] A c 6 w' fst_dig fst_ok (by decide) (h.below hb) (hr.below hb)
  exact this
theorem fstNext4 (A : Option Addr) (c : Nat) (w : World) (h : AIn w fstA A c) : NextSays fstA A c 4 Al.zero 108 w := by
  intro w' hb
  have := next_108 ⟨#[115, 49]⟩ 1 5 1 20 1 0 [0, 3] A c 4 w' fst_ok (by decide) (h.below hb)
  exact this
/-- Withdraw, of the first alert. -/
theorem wd_ (A : Option Addr) (c : Nat) (w : World) (h : AIn w fstA A c) (hr : Rdy w) : Calls Tryz.prog 14 #[fstA.val A c, .int .i64 6] w (OwnT w.heap.size fstW 0 w) := by
  refine Withdraw_n fstA A c 6 ⟨#[115, 49]⟩ 2 6 1 20 1 2145405888 fstW 0 w (fstNext A c w h hr) ?_
  have := drafted_ fstW none 0 w ⟨by decide, Sl.nilS _ _ _⟩
  rw [draftA_t fstW_ok, errA_t fstW_ok] at this
  exact this

theorem ring_plaus : ∀ i (h : i < ringK.length), plaus ringK[i].1 ringK[i].2 = true := by decide
theorem ring_sec : ∀ i (h : i < ringS.length), inB ringS[i] 1 1073741824 = true := by decide
theorem sg3_ (K : Option Addr) (kc : Nat) (Z : Option Addr) (zc : Nat) (A : Option Addr) (c : Nat) (w : World) (hk : Sl w w.heap.size 2 K 3 kc (keyCells ringK)) (hs : Sl w w.heap.size 1 Z 3 zc (ints ringS)) (ha : AIn w fstA A c) (hr : Rdy w) :
    Calls Tryz.prog 34 #[.slice K 3 kc, .slice Z 3 zc, fstA.val A c, .int .i64 3] w (SgT fstA A c fstS w) := by
  have := lawsigned_ ringK K kc ringS Z zc fstA A c 3 w hk hs ha hr fst_ok ring_plaus ring_sec (by decide) (by decide) (by decide)
  rw [fst_sg] at this
  exact this
theorem slr_lt {w w' : World} {B lo sz n c : Nat} {A : Option Addr} {xs : List Value} (h : Sl w B sz A n c xs) (hk : Sl w' w'.heap.size sz A n c xs) (hB : B ≤ lo) : SlR w' (fun i => ¬ lo ≤ i) sz A n c xs :=
  ⟨hk, fun hn a ea => by
    obtain ⟨b, off, e, hb, _⟩ := h.at_ hn
    rw [ea] at e
    cases e
    show ¬ lo ≤ b
    omega⟩

/-- Posting to a board that is made of blocks from lo on. -/
theorem postLo (lo b : Nat) (ks : List (Int × Int)) (q : Int) (ns : List Ntc) (n : Ntc) (A : Option Addr) (c : Nat) (Z : Option Addr) (zc : Nat) (v : Int) (w : World) (hv : postE ks q ns n = v) (hlo : lo ≤ w.heap.size)
    (h : Bd w (fun i => lo ≤ i) b ks q ns) (hn : NIn w n A c Z zc) (ht : Rdy w) (hna : SlR w (fun i => ¬ lo ≤ i) 1 A n.a.cells.length c (ints n.a.cells)) :
    Calls Tryz.prog 21 #[.pointer (some ⟨b, 0, none⟩), n.val A c Z zc] w fun e w' => e = .returned (.int .i64 v) ∧ Bd w' (fun i => lo ≤ i) b ks q (postN ks q ns n) ∧ Below lo w w' := by
  refine (Post_ (fun i => lo ≤ i) b ks q ns n A c Z zc w h hn ht hna).mono fun e w' hp => ?_
  obtain ⟨h1, h2, h3⟩ := hp
  rw [hv] at h1
  exact ⟨h1, h2.mono (fun i hi => by rcases hi with hi | hi; exact hi; exact Nat.le_trans hlo hi), h3.below hlo (fun i hi => hi)⟩
theorem fst_postN : postN ringK 2 [] fstN = [fstN] := by unfold postN; rw [fst_post]; rfl

set_option maxRecDepth 100000 in
set_option maxHeartbeats 4000000 in
theorem works_ (w : World) (hr : Rdy w) : Calls Tryz.prog 6 #[] w fun e w' => e = .returned (.bool true) ∧ Below w.heap.size w w' := by
  have HR := Lib.hid hr
  clear hr
  go_enter Tryz.func6, Tryz.ntmps6
  go_wp2_with fail
  refine (mk1_ _).mono ?_
  rintro e w1 ⟨rfl, hb⟩
  obtain ⟨hcw1, hfw1⟩ := bcell hb
  have Hw1 : Hid (Below (w.heap.size) (w) w1) := (show Below (w.heap.size) (w) _ from (by repeat (first | exact Below.refl _ _ | assumption | refine below_drewN ?_ _ | refine Below.drew ?_ | refine Below.setCell ?_ (by first | omega | (simp; done) | (simp; omega)) _ | refine Below.alloc ?_ (by first | omega | (simp; done) | (simp; omega)) _))).trans (hb.mono (by first | omega | (simp; done) | (simp; omega)))
  have hzw1 := hb.size
  try simp at hzw1
  clear hb
  go_wp2_with fail
  refine (mk2_ _).mono ?_
  rintro e w2 ⟨rfl, hb⟩
  obtain ⟨hcw2, hfw2⟩ := bcell hb
  have Hw2 : Hid (Below (w.heap.size) (w) w2) := (show Below (w.heap.size) (w) _ from (by repeat (first | exact Below.refl _ _ | exact (Hw1).out | refine below_drewN ?_ _ | refine Below.drew ?_ | refine Below.setCell ?_ (by first | omega | (simp; done) | (simp; omega)) _ | refine Below.alloc ?_ (by first | omega | (simp; done) | (simp; omega)) _))).trans (hb.mono (by first | omega | (simp; done) | (simp; omega)))
  have Xw2 : Hid (Below (w1.heap.size + 1) (w1.alloc (.cells #[.int .i64 33, .int .i64 7] 94)) w2) := (show Below (w1.heap.size + 1) (w1.alloc (.cells #[.int .i64 33, .int .i64 7] 94)) _ from (by repeat (first | exact Below.refl _ _ | assumption | refine below_drewN ?_ _ | refine Below.drew ?_ | refine Below.setCell ?_ (by first | omega | (simp; done) | (simp; omega)) _ | refine Below.alloc ?_ (by first | omega | (simp; done) | (simp; omega)) _))).trans (hb.mono (by first | omega | (simp; done) | (simp; omega)))
  have hzw2 := hb.size
  try simp at hzw2
  clear hb
  go_wp2_with fail
  refine (first_ _).mono ?_
  rintro e w3 ⟨A3, c3, rfl, hown, hb⟩
  obtain ⟨hcw3, hfw3⟩ := bcell hb
  have Hw3 : Hid (Below (w.heap.size) (w) w3) := (show Below (w.heap.size) (w) _ from (by repeat (first | exact Below.refl _ _ | exact (Hw2).out | refine below_drewN ?_ _ | refine Below.drew ?_ | refine Below.setCell ?_ (by first | omega | (simp; done) | (simp; omega)) _ | refine Below.alloc ?_ (by first | omega | (simp; done) | (simp; omega)) _))).trans (hb.mono (by first | omega | (simp; done) | (simp; omega)))
  have Xw3 : Hid (Below (w1.heap.size + 1) (w1.alloc (.cells #[.int .i64 33, .int .i64 7] 94)) w3) := (show Below (w1.heap.size + 1) (w1.alloc (.cells #[.int .i64 33, .int .i64 7] 94)) _ from (by repeat (first | exact Below.refl _ _ | exact (Xw2).out | refine below_drewN ?_ _ | refine Below.drew ?_ | refine Below.setCell ?_ (by first | omega | (simp; done) | (simp; omega)) _ | refine Below.alloc ?_ (by first | omega | (simp; done) | (simp; omega)) _))).trans (hb.mono (by first | omega | (simp; done) | (simp; omega)))
  have hzw3 := hb.size
  try simp at hzw3
  have HA3 := Lib.hid (fst_in hown)
  clear hb hown
  go_wp2_with fail
  refine (Print_t fstA A3 c3 _ fst_ok HA3.out (HR.out.below Hw3.out)).mono ?_
  rintro e w4 ⟨rfl, hb⟩
  obtain ⟨hcw4, hfw4⟩ := bcell hb
  have Hw4 : Hid (Below (w.heap.size) (w) w4) := (show Below (w.heap.size) (w) _ from (by repeat (first | exact Below.refl _ _ | exact (Hw3).out | refine below_drewN ?_ _ | refine Below.drew ?_ | refine Below.setCell ?_ (by first | omega | (simp; done) | (simp; omega)) _ | refine Below.alloc ?_ (by first | omega | (simp; done) | (simp; omega)) _))).trans (hb.mono (by first | omega | (simp; done) | (simp; omega)))
  have Xw4 : Hid (Below (w1.heap.size + 1) (w1.alloc (.cells #[.int .i64 33, .int .i64 7] 94)) w4) := (show Below (w1.heap.size + 1) (w1.alloc (.cells #[.int .i64 33, .int .i64 7] 94)) _ from (by repeat (first | exact Below.refl _ _ | exact (Xw3).out | refine below_drewN ?_ _ | refine Below.drew ?_ | refine Below.setCell ?_ (by first | omega | (simp; done) | (simp; omega)) _ | refine Below.alloc ?_ (by first | omega | (simp; done) | (simp; omega)) _))).trans (hb.mono (by first | omega | (simp; done) | (simp; omega)))
  have hzw4 := hb.size
  try simp at hzw4
  clear hb
  go_wp2_with fail
  refine (first_ _).mono ?_
  rintro e w5 ⟨A5, c5, rfl, hown, hb⟩
  obtain ⟨hcw5, hfw5⟩ := bcell hb
  have Hw5 : Hid (Below (w.heap.size) (w) w5) := (show Below (w.heap.size) (w) _ from (by repeat (first | exact Below.refl _ _ | exact (Hw4).out | refine below_drewN ?_ _ | refine Below.drew ?_ | refine Below.setCell ?_ (by first | omega | (simp; done) | (simp; omega)) _ | refine Below.alloc ?_ (by first | omega | (simp; done) | (simp; omega)) _))).trans (hb.mono (by first | omega | (simp; done) | (simp; omega)))
  have Xw5 : Hid (Below (w1.heap.size + 1) (w1.alloc (.cells #[.int .i64 33, .int .i64 7] 94)) w5) := (show Below (w1.heap.size + 1) (w1.alloc (.cells #[.int .i64 33, .int .i64 7] 94)) _ from (by repeat (first | exact Below.refl _ _ | exact (Xw4).out | refine below_drewN ?_ _ | refine Below.drew ?_ | refine Below.setCell ?_ (by first | omega | (simp; done) | (simp; omega)) _ | refine Below.alloc ?_ (by first | omega | (simp; done) | (simp; omega)) _))).trans (hb.mono (by first | omega | (simp; done) | (simp; omega)))
  have hzw5 := hb.size
  try simp at hzw5
  have HA5 := Lib.hid (fst_in hown)
  clear hb hown
  go_wp2_with fail
  refine (wd_ A5 c5 _ HA5.out (HR.out.below Hw5.out)).mono ?_
  rintro e w6 ⟨A6, c6, rfl, hown, hb⟩
  obtain ⟨hcw6, hfw6⟩ := bcell hb
  have Hw6 : Hid (Below (w.heap.size) (w) w6) := (show Below (w.heap.size) (w) _ from (by repeat (first | exact Below.refl _ _ | exact (Hw5).out | refine below_drewN ?_ _ | refine Below.drew ?_ | refine Below.setCell ?_ (by first | omega | (simp; done) | (simp; omega)) _ | refine Below.alloc ?_ (by first | omega | (simp; done) | (simp; omega)) _))).trans (hb.mono (by first | omega | (simp; done) | (simp; omega)))
  have Xw6 : Hid (Below (w1.heap.size + 1) (w1.alloc (.cells #[.int .i64 33, .int .i64 7] 94)) w6) := (show Below (w1.heap.size + 1) (w1.alloc (.cells #[.int .i64 33, .int .i64 7] 94)) _ from (by repeat (first | exact Below.refl _ _ | exact (Xw5).out | refine below_drewN ?_ _ | refine Below.drew ?_ | refine Below.setCell ?_ (by first | omega | (simp; done) | (simp; omega)) _ | refine Below.alloc ?_ (by first | omega | (simp; done) | (simp; omega)) _))).trans (hb.mono (by first | omega | (simp; done) | (simp; omega)))
  have hzw6 := hb.size
  try simp at hzw6
  clear hb hown
  go_wp2_with fail
  refine (first_ _).mono ?_
  rintro e w7 ⟨A7, c7, rfl, hown, hb⟩
  obtain ⟨hcw7, hfw7⟩ := bcell hb
  have Hw7 : Hid (Below (w.heap.size) (w) w7) := (show Below (w.heap.size) (w) _ from (by repeat (first | exact Below.refl _ _ | exact (Hw6).out | refine below_drewN ?_ _ | refine Below.drew ?_ | refine Below.setCell ?_ (by first | omega | (simp; done) | (simp; omega)) _ | refine Below.alloc ?_ (by first | omega | (simp; done) | (simp; omega)) _))).trans (hb.mono (by first | omega | (simp; done) | (simp; omega)))
  have Xw7 : Hid (Below (w1.heap.size + 1) (w1.alloc (.cells #[.int .i64 33, .int .i64 7] 94)) w7) := (show Below (w1.heap.size + 1) (w1.alloc (.cells #[.int .i64 33, .int .i64 7] 94)) _ from (by repeat (first | exact Below.refl _ _ | exact (Xw6).out | refine below_drewN ?_ _ | refine Below.drew ?_ | refine Below.setCell ?_ (by first | omega | (simp; done) | (simp; omega)) _ | refine Below.alloc ?_ (by first | omega | (simp; done) | (simp; omega)) _))).trans (hb.mono (by first | omega | (simp; done) | (simp; omega)))
  have Yw7 : Hid (Below (w6.heap.size + 1) (w6.alloc (.cells #[.string fstW.ev, .int .i64 fstW.ver, .int .i64 fstW.tm, .int .i64 fstW.n, .int .i64 fstW.of, .int .i64 fstW.grid, .slice A6 fstW.cells.length c6, .bool fstW.wd, .int .i64 fstW.before] 55)) w7) := (show Below (w6.heap.size + 1) (w6.alloc (.cells #[.string fstW.ev, .int .i64 fstW.ver, .int .i64 fstW.tm, .int .i64 fstW.n, .int .i64 fstW.of, .int .i64 fstW.grid, .slice A6 fstW.cells.length c6, .bool fstW.wd, .int .i64 fstW.before] 55)) _ from (by repeat (first | exact Below.refl _ _ | assumption | refine below_drewN ?_ _ | refine Below.drew ?_ | refine Below.setCell ?_ (by first | omega | (simp; done) | (simp; omega)) _ | refine Below.alloc ?_ (by first | omega | (simp; done) | (simp; omega)) _))).trans (hb.mono (by first | omega | (simp; done) | (simp; omega)))
  have hzw7 := hb.size
  try simp at hzw7
  have HA7 := Lib.hid (fst_in hown)
  clear hb hown
  go_wp2_with fail
  refine (Follow_e fstA A7 c7 4 1 20 1 _ 1 1 108 _ (by decide) (fstNext4 A7 c7 _ (HA7.out.below (by (repeat (first | exact Below.refl _ _ | assumption | refine below_drewN ?_ _ | refine Below.drew ?_ | refine Below.setCell ?_ (by first | omega | (simp; done) | (simp; omega)) _ | refine Below.alloc ?_ (by first | omega | (simp; done) | (simp; omega)) _)))))).mono ?_
  rintro e w8 ⟨A8, c8, rfl, hown, hb⟩
  obtain ⟨hcw8, hfw8⟩ := bcell hb
  have Hw8 : Hid (Below (w.heap.size) (w) w8) := (show Below (w.heap.size) (w) _ from (by repeat (first | exact Below.refl _ _ | exact (Hw7).out | refine below_drewN ?_ _ | refine Below.drew ?_ | refine Below.setCell ?_ (by first | omega | (simp; done) | (simp; omega)) _ | refine Below.alloc ?_ (by first | omega | (simp; done) | (simp; omega)) _))).trans (hb.mono (by first | omega | (simp; done) | (simp; omega)))
  have Xw8 : Hid (Below (w1.heap.size + 1) (w1.alloc (.cells #[.int .i64 33, .int .i64 7] 94)) w8) := (show Below (w1.heap.size + 1) (w1.alloc (.cells #[.int .i64 33, .int .i64 7] 94)) _ from (by repeat (first | exact Below.refl _ _ | exact (Xw7).out | refine below_drewN ?_ _ | refine Below.drew ?_ | refine Below.setCell ?_ (by first | omega | (simp; done) | (simp; omega)) _ | refine Below.alloc ?_ (by first | omega | (simp; done) | (simp; omega)) _))).trans (hb.mono (by first | omega | (simp; done) | (simp; omega)))
  have Yw8 : Hid (Below (w6.heap.size + 1) (w6.alloc (.cells #[.string fstW.ev, .int .i64 fstW.ver, .int .i64 fstW.tm, .int .i64 fstW.n, .int .i64 fstW.of, .int .i64 fstW.grid, .slice A6 fstW.cells.length c6, .bool fstW.wd, .int .i64 fstW.before] 55)) w8) := (show Below (w6.heap.size + 1) (w6.alloc (.cells #[.string fstW.ev, .int .i64 fstW.ver, .int .i64 fstW.tm, .int .i64 fstW.n, .int .i64 fstW.of, .int .i64 fstW.grid, .slice A6 fstW.cells.length c6, .bool fstW.wd, .int .i64 fstW.before] 55)) _ from (by repeat (first | exact Below.refl _ _ | exact (Yw7).out | refine below_drewN ?_ _ | refine Below.drew ?_ | refine Below.setCell ?_ (by first | omega | (simp; done) | (simp; omega)) _ | refine Below.alloc ?_ (by first | omega | (simp; done) | (simp; omega)) _))).trans (hb.mono (by first | omega | (simp; done) | (simp; omega)))
  have hzw8 := hb.size
  try simp at hzw8
  clear hb hown
  have x0 : w8.cell? ⟨w1.heap.size, 0, none⟩ = some (.int .i64 33) := by rw [Xw8.out.cell (p := ⟨w1.heap.size, 0, none⟩) (Nat.lt_succ_self _)]; simp [go_sem]
  have x1 : w8.cell? ⟨w1.heap.size, 1, none⟩ = some (.int .i64 7) := by rw [Xw8.out.cell (p := ⟨w1.heap.size, 1, none⟩) (Nat.lt_succ_self _)]; simp [go_sem]
  have y1 : w8.cell? ⟨w6.heap.size, 1, none⟩ = some (.int .i64 2) := by rw [Yw8.out.cell (p := ⟨w6.heap.size, 1, none⟩) (Nat.lt_succ_self _)]; simp [go_sem, fstW]
  have y6 : w8.cell? ⟨w6.heap.size, 6, none⟩ = some (.slice A6 0 c6) := by rw [Yw8.out.cell (p := ⟨w6.heap.size, 6, none⟩) (Nat.lt_succ_self _)]; simp [go_sem, fstW]
  have y7 : w8.cell? ⟨w6.heap.size, 7, none⟩ = some (.bool true) := by rw [Yw8.out.cell (p := ⟨w6.heap.size, 7, none⟩) (Nat.lt_succ_self _)]; simp [go_sem, fstW]
  have l1 : w1.heap.size < w8.heap.size := by omega
  have l6 : w6.heap.size < w8.heap.size := by omega
  have l1' : w1.heap.size ≠ w8.heap.size := by omega
  have l6' : w6.heap.size ≠ w8.heap.size := by omega
  rw [fst_text]
  unfold fstL
  go_wp2_with fail
  refine (ring_ _).mono ?_
  rintro e w9 ⟨K, kc, Z, zc, rfl, hK, hZ, hb⟩
  obtain ⟨hcw9, hfw9⟩ := bcell hb
  have Hw9 : Hid (Below (w.heap.size) (w) w9) := (show Below (w.heap.size) (w) _ from (by repeat (first | exact Below.refl _ _ | exact (Hw8).out | refine below_drewN ?_ _ | refine Below.drew ?_ | refine Below.setCell ?_ (by first | omega | (simp; done) | (simp; omega)) _ | refine Below.alloc ?_ (by first | omega | (simp; done) | (simp; omega)) _))).trans (hb.mono (by first | omega | (simp; done) | (simp; omega)))
  have hzw9 := hb.size
  try simp at hzw9
  have HK := Lib.hid hK
  have HZ := Lib.hid hZ
  clear hb hK hZ
  go_wp2_with fail
  refine (first_ _).mono ?_
  rintro e w10 ⟨A10, c10, rfl, hown, hb⟩
  obtain ⟨hcw10, hfw10⟩ := bcell hb
  have Hw10 : Hid (Below (w.heap.size) (w) w10) := (show Below (w.heap.size) (w) _ from (by repeat (first | exact Below.refl _ _ | exact (Hw9).out | refine below_drewN ?_ _ | refine Below.drew ?_ | refine Below.setCell ?_ (by first | omega | (simp; done) | (simp; omega)) _ | refine Below.alloc ?_ (by first | omega | (simp; done) | (simp; omega)) _))).trans (hb.mono (by first | omega | (simp; done) | (simp; omega)))
  have Jw10 : Hid (Below (w9.heap.size) (w9) w10) := (show Below (w9.heap.size) (w9) _ from (by repeat (first | exact Below.refl _ _ | assumption | refine below_drewN ?_ _ | refine Below.drew ?_ | refine Below.setCell ?_ (by first | omega | (simp; done) | (simp; omega)) _ | refine Below.alloc ?_ (by first | omega | (simp; done) | (simp; omega)) _))).trans (hb.mono (by first | omega | (simp; done) | (simp; omega)))
  have hzw10 := hb.size
  try simp at hzw10
  have HA10 := Lib.hid (fst_in hown)
  clear hown hb
  go_wp2_with fail
  refine (sg3_ K kc Z zc A10 c10 _ (((Sl.of_own HK.out).below Jw10.out).more Jw10.out.size) (((Sl.of_own HZ.out).below Jw10.out).more Jw10.out.size) HA10.out (HR.out.below Hw10.out)).mono ?_
  rintro e w11 ⟨S, sc, rfl, hown, hb⟩
  obtain ⟨hcw11, hfw11⟩ := bcell hb
  have Hw11 : Hid (Below (w.heap.size) (w) w11) := (show Below (w.heap.size) (w) _ from (by repeat (first | exact Below.refl _ _ | exact (Hw10).out | refine below_drewN ?_ _ | refine Below.drew ?_ | refine Below.setCell ?_ (by first | omega | (simp; done) | (simp; omega)) _ | refine Below.alloc ?_ (by first | omega | (simp; done) | (simp; omega)) _))).trans (hb.mono (by first | omega | (simp; done) | (simp; omega)))
  have Jw11 : Hid (Below (w9.heap.size) (w9) w11) := (show Below (w9.heap.size) (w9) _ from (by repeat (first | exact Below.refl _ _ | exact (Jw10).out | refine below_drewN ?_ _ | refine Below.drew ?_ | refine Below.setCell ?_ (by first | omega | (simp; done) | (simp; omega)) _ | refine Below.alloc ?_ (by first | omega | (simp; done) | (simp; omega)) _))).trans (hb.mono (by first | omega | (simp; done) | (simp; omega)))
  have Qw11 : Hid (Below (w10.heap.size) (w10) w11) := (show Below (w10.heap.size) (w10) _ from (by repeat (first | exact Below.refl _ _ | assumption | refine below_drewN ?_ _ | refine Below.drew ?_ | refine Below.setCell ?_ (by first | omega | (simp; done) | (simp; omega)) _ | refine Below.alloc ?_ (by first | omega | (simp; done) | (simp; omega)) _))).trans (hb.mono (by first | omega | (simp; done) | (simp; omega)))
  have hzw11 := hb.size
  try simp at hzw11
  have HS11 := Lib.hid (Sl.of_own hown)
  clear hown hb
  go_wp2_with fail
  refine (newBoard_t ringK 2 K kc _ (((Sl.of_own HK.out).below (by repeat (first | exact Below.refl _ _ | exact (Jw11).out | refine below_drewN ?_ _ | refine Below.drew ?_ | refine Below.setCell ?_ (by first | omega | (simp; done) | (simp; omega)) _ | refine Below.alloc ?_ (by first | omega | (simp; done) | (simp; omega)) _))).more (by simp; omega)) ring_ok).mono ?_
  rintro e w12 ⟨b, rfl, hbg, hBd, hb⟩
  obtain ⟨hcw12, hfw12⟩ := bcell hb
  have Hw12 : Hid (Below (w.heap.size) (w) w12) := (show Below (w.heap.size) (w) _ from (by repeat (first | exact Below.refl _ _ | exact (Hw11).out | refine below_drewN ?_ _ | refine Below.drew ?_ | refine Below.setCell ?_ (by first | omega | (simp; done) | (simp; omega)) _ | refine Below.alloc ?_ (by first | omega | (simp; done) | (simp; omega)) _))).trans (hb.mono (by first | omega | (simp; done) | (simp; omega)))
  have Jw12 : Hid (Below (w9.heap.size) (w9) w12) := (show Below (w9.heap.size) (w9) _ from (by repeat (first | exact Below.refl _ _ | exact (Jw11).out | refine below_drewN ?_ _ | refine Below.drew ?_ | refine Below.setCell ?_ (by first | omega | (simp; done) | (simp; omega)) _ | refine Below.alloc ?_ (by first | omega | (simp; done) | (simp; omega)) _))).trans (hb.mono (by first | omega | (simp; done) | (simp; omega)))
  have Qw12 : Hid (Below (w10.heap.size) (w10) w12) := (show Below (w10.heap.size) (w10) _ from (by repeat (first | exact Below.refl _ _ | exact (Qw11).out | refine below_drewN ?_ _ | refine Below.drew ?_ | refine Below.setCell ?_ (by first | omega | (simp; done) | (simp; omega)) _ | refine Below.alloc ?_ (by first | omega | (simp; done) | (simp; omega)) _))).trans (hb.mono (by first | omega | (simp; done) | (simp; omega)))
  have Tw12 : Hid (Below (w11.heap.size) (w11) w12) := (show Below (w11.heap.size) (w11) _ from (by repeat (first | exact Below.refl _ _ | assumption | refine below_drewN ?_ _ | refine Below.drew ?_ | refine Below.setCell ?_ (by first | omega | (simp; done) | (simp; omega)) _ | refine Below.alloc ?_ (by first | omega | (simp; done) | (simp; omega)) _))).trans (hb.mono (by first | omega | (simp; done) | (simp; omega)))
  have Uw12 : Hid (Below (w11.heap.size + 1) (w11.alloc (.cells (fstN.val A10 c10 S sc).cells 72)) w12) := (show Below (w11.heap.size + 1) (w11.alloc (.cells (fstN.val A10 c10 S sc).cells 72)) _ from (by repeat (first | exact Below.refl _ _ | assumption | refine below_drewN ?_ _ | refine Below.drew ?_ | refine Below.setCell ?_ (by first | omega | (simp; done) | (simp; omega)) _ | refine Below.alloc ?_ (by first | omega | (simp; done) | (simp; omega)) _))).trans (hb.mono (by first | omega | (simp; done) | (simp; omega)))
  have hzw12 := hb.size
  try simp at hzw12
  have HBD := Lib.hid hBd
  clear hb hBd
  go_wp2_with fail
  have HB1 := Lib.hid (HBD.out.mono (S' := fun i => w11.heap.size + 1 ≤ i) (fun i hi => by simpa using hi))
  have HN1 : Hid (NIn w12 fstN A10 c10 S sc) := ⟨HA10.out.below Qw12.out, (HS11.out.below Tw12.out).more Tw12.out.size⟩
  have lo1 : w11.heap.size + 1 ≤ w12.heap.size := by omega
  refine (postLo (w11.heap.size + 1) b ringK 2 [] fstN A10 c10 S sc 0 _ fst_post lo1 HB1.out HN1.out (HR.out.below Hw12.out) (slr_lt HA10.out.sl HN1.out.al.sl (by omega))).mono ?_
  rintro e w13 ⟨rfl, hBd, hb⟩
  obtain ⟨hcw13, hfw13⟩ := bcell hb
  have Hw13 : Hid (Below (w.heap.size) (w) w13) := (show Below (w.heap.size) (w) _ from (by repeat (first | exact Below.refl _ _ | exact (Hw12).out | refine below_drewN ?_ _ | refine Below.drew ?_ | refine Below.setCell ?_ (by first | omega | (simp; done) | (simp; omega)) _ | refine Below.alloc ?_ (by first | omega | (simp; done) | (simp; omega)) _))).trans (hb.mono (by first | omega | (simp; done) | (simp; omega)))
  have Qw13 : Hid (Below (w10.heap.size) (w10) w13) := (show Below (w10.heap.size) (w10) _ from (by repeat (first | exact Below.refl _ _ | exact (Qw12).out | refine below_drewN ?_ _ | refine Below.drew ?_ | refine Below.setCell ?_ (by first | omega | (simp; done) | (simp; omega)) _ | refine Below.alloc ?_ (by first | omega | (simp; done) | (simp; omega)) _))).trans (hb.mono (by first | omega | (simp; done) | (simp; omega)))
  have Tw13 : Hid (Below (w11.heap.size) (w11) w13) := (show Below (w11.heap.size) (w11) _ from (by repeat (first | exact Below.refl _ _ | exact (Tw12).out | refine below_drewN ?_ _ | refine Below.drew ?_ | refine Below.setCell ?_ (by first | omega | (simp; done) | (simp; omega)) _ | refine Below.alloc ?_ (by first | omega | (simp; done) | (simp; omega)) _))).trans (hb.mono (by first | omega | (simp; done) | (simp; omega)))
  have Uw13 : Hid (Below (w11.heap.size + 1) (w11.alloc (.cells (fstN.val A10 c10 S sc).cells 72)) w13) := (show Below (w11.heap.size + 1) (w11.alloc (.cells (fstN.val A10 c10 S sc).cells 72)) _ from (by repeat (first | exact Below.refl _ _ | exact (Uw12).out | refine below_drewN ?_ _ | refine Below.drew ?_ | refine Below.setCell ?_ (by first | omega | (simp; done) | (simp; omega)) _ | refine Below.alloc ?_ (by first | omega | (simp; done) | (simp; omega)) _))).trans (hb.mono (by first | omega | (simp; done) | (simp; omega)))
  have hzw13 := hb.size
  rw [fst_postN] at hBd
  have HB2 := Lib.hid hBd
  have HN2 : Hid (NIn w13 fstN A10 c10 S sc) := ⟨HA10.out.below Qw13.out, (HS11.out.below Tw13.out).more Tw13.out.size⟩
  clear hb hBd
  have l11 : w11.heap.size < w11.heap.size + 1 := by omega
  go_wp2_with fail
  refine (postLo (w11.heap.size + 1) b ringK 2 [fstN] fstN A10 c10 S sc 105 _ fst_post2 (by omega) HB2.out HN2.out (HR.out.below Hw13.out) (slr_lt HA10.out.sl HN2.out.al.sl (by omega))).mono ?_
  rintro e w14 ⟨rfl, hBd, hb⟩
  have Hw14 : Hid (Below w.heap.size w w14) := Hw13.out.trans (hb.mono (by omega))
  clear hb hBd
  go_wp2_with fail
  go_ret
  exact ⟨rfl, Hw14.out⟩
end Go.Proofs.YtmpbhngjkbidcaaGreatDoor
