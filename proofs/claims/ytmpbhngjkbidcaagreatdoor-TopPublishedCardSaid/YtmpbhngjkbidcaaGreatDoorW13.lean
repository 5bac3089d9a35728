/-
  The walks of drafted, next, Draft, Follow, Withdraw, Print, of the program.
-/
import Derived.Test.YtmpbhngjkbidcaaGreatDoorW12
import Derived.Deep.DeepMust
import Derived.Lib.SliceRun
import Derived.Deep.RegionHeld3
import Derived.Deep.DrawnRows
namespace Go.Proofs.YtmpbhngjkbidcaaGreatDoor
open Go.RowKit Al

/-- The zero alert. -/
def Al.zero : Alr := ⟨⟨#[]⟩, 0, 0, 0, 0, 0, [], false, 0⟩
/-- An alert with cells in memory of the call's own, and an error. -/
def OwnT (base : Nat) (a : Alr) (k : Int) (w : World) (e : Ending) (w' : World) : Prop := ∃ A c, e = .returned (.tuple #[a.val A c, .int .i64 k]) ∧ ARow w' base a A c ∧ Below w.heap.size w w'
theorem zero_row (w : World) (base : Nat) : ARow w base Al.zero none 0 := World.ownsRow_nil _ _ _ _
theorem own_in {w : World} {base : Nat} {a : Alr} {A : Option Addr} {c : Nat} (hs : a.ev.size ≤ maxLen) (h : ARow w base a A c) : AIn w a A c := ⟨hs, Sl.of_own h⟩
theorem okA_short {a : Alr} (h : okA a = true) : a.cells.length * 8 ≤ 140737488355328 := by
  have := (okA_good h).many
  omega

set_option maxRecDepth 100000 in
theorem drafted_t (a : Alr) (A : Option Addr) (c : Nat) (w : World) (hk : okA a = true) (h : AIn w a A c) :
    Calls Tryz.prog 42 #[a.val A c] w (OwnT w.heap.size a 0 w) := by
  have HS := Lib.hid h
  have HK := Lib.hid hk
  clear h hk
  go_enter Tryz.func42, Tryz.ntmps42
  go_wp2_with fail
  refine (validA_is a A c _ true HK.out (HS.out.below (by (repeat (first | exact Below.refl _ _ | assumption | refine below_drewN ?_ _ | refine Below.drew ?_ | refine Below.setCell ?_ (by first | omega | (simp; done) | (simp; omega)) _ | refine Below.alloc ?_ (by first | omega | (simp; done) | (simp; omega)) _))))).mono ?_
  rintro e w1 ⟨rfl, hb⟩
  obtain ⟨hcw1, hfw1⟩ := bcell hb
  have Hw1 := Lib.hid ((show Below w.heap.size w _ from (by repeat (first | exact Below.refl _ _ | assumption | refine below_drewN ?_ _ | refine Below.drew ?_ | refine Below.setCell ?_ (by first | omega | (simp; done) | (simp; omega)) _ | refine Below.alloc ?_ (by first | omega | (simp; done) | (simp; omega)) _))).trans (hb.mono (by first | omega | (simp; done) | (simp; omega))))
  have hzw1 := hb.size
  try simp at hzw1
  clear hb
  go_wp2_with fail
  refine (copied_ a A c _ (HS.out.below Hw1.out) (okA_short HK.out)).mono ?_
  rintro e w2 ⟨A', c', rfl, hown, hbw⟩
  obtain ⟨hc2, hf2⟩ := bcell hbw
  have HB := Lib.hid (Hw1.out.trans (hbw.mono Hw1.out.size))
  have HO := Lib.hid hown
  have hz2 := hbw.size
  clear hbw hown
  have hz3 : w.heap.size + 1 < w1.heap.size := by omega
  have hz4 : w.heap.size + 1 < w2.heap.size := by omega
  go_wp2_with fail
  refine finCells (w := w2) (w.heap.size + 1) (a.lst A' c') (.tuple #[a.val A' c', .int .i64 0]) rfl ?_ ?_ (show OwnT w.heap.size a 0 w _ _ from ⟨A', c', rfl, ?_, ?_⟩)
  · intro W hW
    have r0 := hW 0 (by simp)
    have r1 := hW 1 (by simp)
    have r2 := hW 2 (by simp)
    have r3 := hW 3 (by simp)
    have r4 := hW 4 (by simp)
    have r5 := hW 5 (by simp)
    have r6 := hW 6 (by simp)
    have r7 := hW 7 (by simp)
    have r8 := hW 8 (by simp)
    clear hW
    simp only [List.getElem_cons_zero, List.getElem_cons_succ] at r0 r1 r2 r3 r4 r5 r6 r7 r8
    simp [results, Tryz.results42, go_sem, r0, r1, r2, r3, r4, r5, r6, r7, r8]
  · refine lt9 ?_
    simp [go_sem, hcw1, hc2, hz3]
  · exact own_more (base := w1.heap.size) (own_setCells (by omega) _ _ _ HO.out) (by omega)
  · exact below_setCells (by omega) _ _ _ _ HB.out

set_option maxRecDepth 100000 in
theorem drafted_f (a : Alr) (A : Option Addr) (c : Nat) (w : World) (hk : okA a = false) (h : AIn w a A c) :
    Calls Tryz.prog 42 #[a.val A c] w (OwnT w.heap.size Al.zero 101 w) := by
  have HS := Lib.hid h
  have HK := Lib.hid hk
  clear h hk
  go_enter Tryz.func42, Tryz.ntmps42
  go_wp2_with fail
  refine (validA_is a A c _ false HK.out (HS.out.below (by (repeat (first | exact Below.refl _ _ | assumption | refine below_drewN ?_ _ | refine Below.drew ?_ | refine Below.setCell ?_ (by first | omega | (simp; done) | (simp; omega)) _ | refine Below.alloc ?_ (by first | omega | (simp; done) | (simp; omega)) _))))).mono ?_
  rintro e w1 ⟨rfl, hb⟩
  obtain ⟨hcw1, hfw1⟩ := bcell hb
  have Hw1 := Lib.hid ((show Below w.heap.size w _ from (by repeat (first | exact Below.refl _ _ | assumption | refine below_drewN ?_ _ | refine Below.drew ?_ | refine Below.setCell ?_ (by first | omega | (simp; done) | (simp; omega)) _ | refine Below.alloc ?_ (by first | omega | (simp; done) | (simp; omega)) _))).trans (hb.mono (by first | omega | (simp; done) | (simp; omega))))
  have hzw1 := hb.size
  try simp at hzw1
  clear hb
  have hz3 : w.heap.size + 1 < w1.heap.size := by omega
  go_wp2_with fail
  refine finCells (w := w1) (w.heap.size + 1) (Al.zero.lst none 0) (.tuple #[Al.zero.val none 0, .int .i64 101]) rfl ?_ ?_ (show OwnT w.heap.size Al.zero 101 w _ _ from ⟨none, 0, rfl, zero_row _ _, ?_⟩)
  · intro W hW
    have r0 := hW 0 (by simp)
    have r1 := hW 1 (by simp)
    have r2 := hW 2 (by simp)
    have r3 := hW 3 (by simp)
    have r4 := hW 4 (by simp)
    have r5 := hW 5 (by simp)
    have r6 := hW 6 (by simp)
    have r7 := hW 7 (by simp)
    have r8 := hW 8 (by simp)
    clear hW
    simp only [List.getElem_cons_zero, List.getElem_cons_succ] at r0 r1 r2 r3 r4 r5 r6 r7 r8
    simp [results, Tryz.results42, go_sem, r0, r1, r2, r3, r4, r5, r6, r7, r8]
  · refine lt9 ?_
    simp [go_sem, hcw1]
  · exact below_setCells (by omega) _ _ _ _ Hw1.out
end Go.Proofs.YtmpbhngjkbidcaaGreatDoor

/-
  The walks of the helpers of the laws: first, ring.
-/
namespace Go.Proofs.YtmpbhngjkbidcaaGreatDoor
open Go.RowKit Al

/-- The alert of the chapter's examples. -/
def fstA : Alr := ⟨⟨#[115, 49]⟩, 1, 5, 1, 20, 1, [0, 3], false, 0⟩
set_option maxRecDepth 100000 in
theorem first_ (w : World) : Calls Tryz.prog 33 #[] w (OwnA fstA w) := by
  go_enter Tryz.func33, Tryz.ntmps33
  go_wp2_with fail
  refine bodyPost_ret (v := fstA.val (some ⟨w.heap.size + 1, 0, none⟩) 2) (by simp [results, Tryz.results33, go_sem, fstA]) rfl ⟨some ⟨w.heap.size + 1, 0, none⟩, 2, rfl, ?_, (by repeat (first | exact Below.refl _ _ | assumption | refine below_drewN ?_ _ | refine Below.drew ?_ | refine Below.setCell ?_ (by first | omega | (simp; done) | (simp; omega)) _ | refine Below.alloc ?_ (by first | omega | (simp; done) | (simp; omega)) _))⟩
  have h := World.ownsRow_lit (base := w.heap.size) (e := 3) (size := 1) (w.alloc (.cells #[.string ⟨#[115, 49]⟩, .int .i64 1, .int .i64 5, .int .i64 1, .int .i64 20, .int .i64 1, .slice (some ⟨w.heap.size + 1, 0, none⟩) 2 2, .bool false, .int .i64 0] 55)) #[.int .i64 0, .int .i64 3] 2 (by simp) (by decide) rfl
  simp at h
  exact h

/-- The keys of the chapter's examples, and their secrets. -/
def ringK : List (Int × Int) := [(33, 7), (35, 5), (15, 3)]
def ringS : List Int := [3, 5, 3]
/-- What ring hands back. -/
def RingT (w : World) (e : Ending) (w' : World) : Prop := ∃ K kc S sc, e = .returned (.tuple #[.slice K 3 kc, .slice S 3 sc]) ∧ w'.ownsRow w.heap.size 94 2 (.slice K 3 kc) 3 (keyCells ringK) ∧ w'.ownsRow w.heap.size 3 1 (.slice S 3 sc) 3 (ints ringS) ∧ Below w.heap.size w w'
set_option maxRecDepth 100000 in
theorem ring_ (w : World) : Calls Tryz.prog 7 #[] w (RingT w) := by
  go_enter Tryz.func7, Tryz.ntmps7
  go_wp2_with fail
  go_ret2
  have h1 := World.ownsRow_lit (base := w.heap.size) (e := 94) (size := 2) w #[.int .i64 33, .int .i64 7, .int .i64 35, .int .i64 5, .int .i64 15, .int .i64 3] 3 (Nat.le_refl _) (by decide) rfl
  have h2 := World.ownsRow_lit (base := w.heap.size) (e := 3) (size := 1) (w.alloc (.cells #[.int .i64 33, .int .i64 7, .int .i64 35, .int .i64 5, .int .i64 15, .int .i64 3] 94)) #[.int .i64 3, .int .i64 5, .int .i64 3] 3 (by simp) (by decide) rfl
  simp at h2
  exact ⟨some ⟨w.heap.size, 0, none⟩, 3, some ⟨w.heap.size + 1, 0, none⟩, 3, rfl, own_below h1 (Nat.le_refl _) ((Below.refl _ _).alloc (Nat.le_refl _) _), h2, (by repeat (first | exact Below.refl _ _ | assumption | refine below_drewN ?_ _ | refine Below.drew ?_ | refine Below.setCell ?_ (by first | omega | (simp; done) | (simp; omega)) _ | refine Below.alloc ?_ (by first | omega | (simp; done) | (simp; omega)) _))⟩
end Go.Proofs.YtmpbhngjkbidcaaGreatDoor

/-
  The walk of the helper that signs an alert by the first keys.
-/
namespace Go.Proofs.YtmpbhngjkbidcaaGreatDoor
open Go.RowKit Al

/-- The signatures by the first k keys. -/
def sgN (ks : List (Int × Int)) (ss : List Int) (d : Int) (k : Nat) : List (Int × Int) := (List.range k).map fun (i : Nat) => ((i : Int), pw d (ss.getD i 0) (ks.getD i (0, 0)).1)
theorem sgN_len (ks : List (Int × Int)) (ss : List Int) (d : Int) (k : Nat) : (sgN ks ss d k).length = k := by simp [sgN]
theorem sgN_succ {ks : List (Int × Int)} {ss : List Int} {d : Int} {k : Nat} (h : k < ks.length) (h' : k < ss.length) : sgN ks ss d (k + 1) = sgN ks ss d k ++ [((k : Int), pw d ss[k] ks[k].1)] := by
  unfold sgN
  rw [List.range_succ, List.map_append]
  simp [List.getD, h, h']
theorem keyCells_snoc (ks : List (Int × Int)) (k : Int × Int) : keyCells (ks ++ [k]) = keyCells ks ++ [.int .i64 k.1, .int .i64 k.2] := by simp [keyCells]
theorem infoSig : (Tryz.prog.info? 123).map (fun i => (i.zero, i.size, i.bytes)) = some (some (.agg #[.int .i64 0, .int .i64 0]), 2, 16) := by kernel_rfl
theorem Sign_is (m x s : Int) (a : Alr) (A : Option Addr) (c : Nat) (w : World) (h1 : plaus m x = true) (h2 : inB s 1 1073741824 = true) (hk : okA a = true) (h : AIn w a A c) (hr : Rdy w) :
    Calls Tryz.prog 48 #[.agg #[.int .i64 m, .int .i64 x], .int .i64 s, a.val A c] w fun e w' => e = .returned (.tuple #[.int .i64 (pw (digA a) s m), .int .i64 0]) ∧ Below w.heap.size w w' := by
  have := Sign_ m x s a A c w h hr
  rw [signE_ok h1 h2 hk] at this
  exact this

theorem two_one (x y : Int) : ∀ u ∈ (#[.int .i64 x, .int .i64 y] : Array Value).toList, u.oneCell' = true := by
  intro u hu
  simp at hu
  rcases hu with rfl | rfl <;> rfl
theorem own_base {w : World} {base e sz n g : Nat} {v : Value} {xs : List Value} (h : w.ownsRow base e sz v n xs) (hg : v.ownBlock = some g) : base ≤ g := by
  rcases h.2 with ⟨rfl, _⟩ | ⟨g', cap, cur, rfl, hb, _⟩
  · cases hg
  · cases hg; exact hb

@[reducible] def ntL (a : Alr) (A : Option Addr) (c : Nat) (S : Option Addr) (k sc : Nat) : List Value :=
  [.string a.ev, .int .i64 a.ver, .int .i64 a.tm, .int .i64 a.n, .int .i64 a.of, .int .i64 a.grid, .slice A a.cells.length c, .bool a.wd, .int .i64 a.before, .slice S k sc]
theorem lt10 {p : Nat → Prop} (h : p 0 ∧ p 1 ∧ p 2 ∧ p 3 ∧ p 4 ∧ p 5 ∧ p 6 ∧ p 7 ∧ p 8 ∧ p 9) : ∀ j, j < 10 → p j
  | 0, _ => h.1 | 1, _ => h.2.1 | 2, _ => h.2.2.1 | 3, _ => h.2.2.2.1 | 4, _ => h.2.2.2.2.1 | 5, _ => h.2.2.2.2.2.1 | 6, _ => h.2.2.2.2.2.2.1 | 7, _ => h.2.2.2.2.2.2.2.1 | 8, _ => h.2.2.2.2.2.2.2.2.1 | 9, _ => h.2.2.2.2.2.2.2.2.2
  | n + 10, h' => absurd h' (by omega)

/-- Where the notice lies while it is made: the block of the alert given, that of the notice. -/
structure SgSt (w w0 wr : World) (a : Alr) (A : Option Addr) (c : Nat) (ks : List (Int × Int)) (ss : List Int) (k : Nat) (S : Option Addr) (sc : Nat) : Prop where
  bel : Below (w.heap.size + 1 + 1) w0 wr
  n0 : wr.cell? ⟨w.heap.size + 1 + 1, 0, none⟩ = some (.string a.ev)
  n1 : wr.cell? ⟨w.heap.size + 1 + 1, 1, none⟩ = some (.int .i64 a.ver)
  n2 : wr.cell? ⟨w.heap.size + 1 + 1, 2, none⟩ = some (.int .i64 a.tm)
  n3 : wr.cell? ⟨w.heap.size + 1 + 1, 3, none⟩ = some (.int .i64 a.n)
  n4 : wr.cell? ⟨w.heap.size + 1 + 1, 4, none⟩ = some (.int .i64 a.of)
  n5 : wr.cell? ⟨w.heap.size + 1 + 1, 5, none⟩ = some (.int .i64 a.grid)
  n6 : wr.cell? ⟨w.heap.size + 1 + 1, 6, none⟩ = some (.slice A a.cells.length c)
  n7 : wr.cell? ⟨w.heap.size + 1 + 1, 7, none⟩ = some (.bool a.wd)
  n8 : wr.cell? ⟨w.heap.size + 1 + 1, 8, none⟩ = some (.int .i64 a.before)
  n9 : wr.cell? ⟨w.heap.size + 1 + 1, 9, none⟩ = some (.slice S k sc)
  fz : wr.frozen? ⟨w.heap.size + 1 + 1, 9, none⟩ = false
  own : wr.ownsRow (w.heap.size + 1 + 1 + 1) 123 2 (.slice S k sc) k (keyCells (sgN ks ss (digA a) k))
  size : w.heap.size + 1 + 1 + 1 ≤ wr.heap.size
def SgRel (w w0 wr : World) (a : Alr) (A : Option Addr) (c : Nat) (ks : List (Int × Int)) (ss : List Int) (i : Value) (m : Nat) : Prop := ∃ (k : Nat) (S : Option Addr) (sc : Nat), k ≤ m ∧ i = .int .i64 k ∧ SgSt w w0 wr a A c ks ss k S sc
/-- What it hands back: the notice; its signatures lie in memory of the call's own. -/
def SgT (a : Alr) (A : Option Addr) (c : Nat) (sg : List (Int × Int)) (w : World) (e : Ending) (w' : World) : Prop := ∃ S sc, e = .returned (.tuple #[(⟨a, sg⟩ : Ntc).val A c S sc, .bool true]) ∧ w'.ownsRow w.heap.size 123 2 (.slice S sg.length sc) sg.length (keyCells sg) ∧ Below w.heap.size w w'

set_option maxRecDepth 100000 in
set_option maxHeartbeats 2000000 in
theorem lawsigned_ (ks : List (Int × Int)) (K : Option Addr) (kc : Nat) (ss : List Int) (Z : Option Addr) (zc : Nat) (a : Alr) (A : Option Addr) (c : Nat) (m : Nat) (w : World)
    (hk : Sl w w.heap.size 2 K ks.length kc (keyCells ks)) (hs : Sl w w.heap.size 1 Z ss.length zc (ints ss)) (ha : AIn w a A c) (hr : Rdy w) (hok : okA a = true)
    (hpl : ∀ i (h : i < ks.length), plaus ks[i].1 ks[i].2 = true) (hsc : ∀ i (h : i < ss.length), inB ss[i] 1 1073741824 = true) (hm : m ≤ ks.length) (hks : ks.length ≤ ss.length) (hb : ks.length ≤ 1048576) :
    Calls Tryz.prog 34 #[.slice K ks.length kc, .slice Z ss.length zc, a.val A c, .int .i64 m] w (SgT a A c (sgN ks ss (digA a) m) w) := by
  obtain ⟨i0, hi, hz0, hz1, hz2⟩ := info_parts infoSig
  have HK := Lib.hid hk
  have HS := Lib.hid hs
  have HA := Lib.hid ha
  have HR := Lib.hid hr
  have HO := Lib.hid hok
  have HP := Lib.hid hpl
  have HC := Lib.hid hsc
  have hlz : ss.length ≤ maxLen := Nat.le_trans hs.cap hs.max
  unfold maxLen at hlz
  clear hk hs ha hr hok hpl hsc
  go_enter Tryz.func34, Tryz.ntmps34
  go_wp2_with fail
  go_loopw [11] (fun i wr => SgRel w ((w.alloc (.cells (a.val A c).cells 55)).alloc (.cells #[.string ⟨#[]⟩, .int .i64 0, .int .i64 0, .int .i64 0, .int .i64 0, .int .i64 0, .slice none 0 0, .bool false, .int .i64 0, .slice none 0 0] 72)) wr a A c ks ss i m) (fun i _ => m - (intOf i).toNat)
  case atStart =>
    refine ⟨0, none, 0, Nat.zero_le _, rfl, ⟨(Below.refl _ _).alloc (by simp) _, ?_, ?_, ?_, ?_, ?_, ?_, ?_, ?_, ?_, ?_, ?_, World.ownsRow_nil _ _ _ _, by simp⟩⟩ <;> simp [go_sem]
  case round =>
    obtain ⟨k, S, sc, hkm, rfl, hst⟩ := hrel
    have hB := hst.bel
    have hn0 := hst.n0
    have hn1 := hst.n1
    have hn2 := hst.n2
    have hn3 := hst.n3
    have hn4 := hst.n4
    have hn5 := hst.n5
    have hn6 := hst.n6
    have hn7 := hst.n7
    have hn8 := hst.n8
    have hn9 := hst.n9
    have hf9 := hst.fz
    have hsz := hst.size
    have HST := Lib.hid hst
    obtain ⟨hcw, hfw⟩ := bcell hB
    have HB := Lib.hid hB
    have hWB : Hid (Below w.heap.size w wr) := ((show Below w.heap.size w _ from by (repeat (first | exact Below.refl _ _ | assumption | refine below_drewN ?_ _ | refine Below.drew ?_ | refine Below.setCell ?_ (by first | omega | (simp; done) | (simp; omega)) _ | refine Below.alloc ?_ (by first | omega | (simp; done) | (simp; omega)) _))).trans (hB.mono (by omega)))
    clear hB hst
    by_cases hlt : k < m
    · have hkl : k < ks.length := by omega
      have hzl : k < ss.length := by omega
      obtain ⟨kb, ko, rfl, hkb, hk1, hk2⟩ := (HK.out.below hWB.out).key_at hkl
      obtain ⟨zb, zo, rfl, hzb, hzc⟩ := (HS.out.below hWB.out).int_at hzl hzl
      have hlt' : (k : Int) < (m : Int) := by omega
      have hkl' : (k : Int) < (ks.length : Int) := by omega
      have hzl' : (k : Int) < (ss.length : Int) := by omega
      have hk0 : (0 : Int) ≤ (k : Int) := by omega
      have hz7 : w.heap.size < wr.heap.size := by omega
      have hz8 : w.heap.size + 1 < wr.heap.size := by omega
      have hz9 : w.heap.size + 1 + 1 < wr.heap.size := by omega
      have hkb2 : kb < wr.heap.size := by omega
      have hzb2 : zb < wr.heap.size := by omega
      have P1 := Lib.hid (HP.out k hkl)
      have P2 := Lib.hid (HC.out k hzl)
      go_wp2_with fail
      refine wp_region_bw2 (by kernel_rfl) (by kernel_rfl) (fun hbwc => ?_)
      repeat (go_big_quiet_step ((go_at_call 48; exact bwCall (Sign_is _ _ _ a A c _ P1.out P2.out HO.out (AIn.below (HA.out.below hWB.out) (BW.below _)) (Rdy.below (HR.out.below hWB.out) (BW.below _))))))
      refine wpQuiet_nil ?_
      clear hbwc
      intro w3 hb
      obtain ⟨hcw3, hfw3⟩ := bcell hb
      have hz10 := hb.size
      have HB3 := Lib.hid hb
      clear hb
      have HOW := Lib.hid (own_below (own_below HST.out.own (Nat.le_refl _) HB3.out) (Nat.le_refl _) ((Below.refl _ _).alloc (Nat.le_refl _) (.cells #[.int .i64 k, .int .i64 (pw (digA a) ss[k] ks[k].1)] 123)))
      have HSL := Lib.hid (Sl.of_own (World.ownsRow_lit (base := 0) (e := 123) (size := 2) w3 #[.int .i64 k, .int .i64 (pw (digA a) ss[k] ks[k].1)] 1 (Nat.zero_le _) (by decide) rfl))
      go_wp2_with
        (at_builtin; go_must (refine wpList_append_sl rfl _ _ 70 rfl (w.heap.size + 1 + 1 + 1) 123 i0 (.agg #[.int .i64 0, .int .i64 0]) 2 16 Tryz.underlying70 hi hz0 hz1 hz2 rfl (by decide) _ k _ rfl HOW.out _ _ 1 1 _ rfl HSL.out (two_one _ _) (by unfold maxLen; omega) (by omega) (by simp; omega) ?_); intro v' w4 hown hgrow _
         obtain ⟨S', sc', rfl⟩ := own_form hown
         have hg4 := (Below.refl (w.heap.size + 1 + 1 + 1) _).grown hgrow (by simp; omega) (fun g hg => own_base HOW.out hg)
         obtain ⟨hcw4, hfw4⟩ := bcell hg4
         have HG4 := Lib.hid hg4
         have HOWN := Lib.hid hown
         have hz11 := hg4.size
         simp at hz11
         have hz12 : w.heap.size + 1 + 1 < w3.heap.size := by omega
         have hz13 : w.heap.size + 1 + 1 < w4.heap.size := by omega
         clear hgrow hg4 hown)
      go_roundw
      case rel =>
        have hsn := sgN_succ (d := digA a) hkl hzl
        refine ⟨k + 1, S', sc', by omega, by go_num, ⟨?_, ?_, ?_, ?_, ?_, ?_, ?_, ?_, ?_, ?_, ?_, ?_, ?_, ?_⟩⟩
        case refine_1 => exact (((HB.out.trans (HB3.out.mono (by omega))).alloc (by omega) _).trans (HG4.out.mono (by omega))).setCell (by simp) _
        case refine_13 =>
          rw [hsn, keyCells_snoc]
          exact ownsRow_setCell_below HOWN.out (by simp) _
        case refine_14 => simp; omega
        all_goals simp [go_sem, hcw4, hfw4, hcw3, hfw3, hn0, hn1, hn2, hn3, hn4, hn5, hn6, hn7, hn8, hn9, hf9, hz9, hz12]
      case measure => simp [intOf]; omega
    · obtain rfl : k = m := by omega
      go_wp2_with fail
      have hz8 : w.heap.size + 1 < wr.heap.size := by omega
      refine finCells (w := wr) (w.heap.size + 1) (ntL a A c S k sc) (.tuple #[.agg (ntL a A c S k sc).toArray, .bool true]) rfl ?_ ?_ (show SgT a A c (sgN ks ss (digA a) k) w _ _ from ⟨S, sc, ?_, ?_, ?_⟩)
      · intro W hW
        have r0 := hW 0 (by simp)
        have r1 := hW 1 (by simp)
        have r2 := hW 2 (by simp)
        have r3 := hW 3 (by simp)
        have r4 := hW 4 (by simp)
        have r5 := hW 5 (by simp)
        have r6 := hW 6 (by simp)
        have r7 := hW 7 (by simp)
        have r8 := hW 8 (by simp)
        have r9 := hW 9 (by simp)
        clear hW
        simp only [List.getElem_cons_zero, List.getElem_cons_succ] at r0 r1 r2 r3 r4 r5 r6 r7 r8 r9
        simp [results, Tryz.results34, go_sem, r0, r1, r2, r3, r4, r5, r6, r7, r8, r9]
      · refine lt10 ?_
        simp [go_sem, hcw]
      · show _ = Ending.returned (.tuple #[.agg #[.string a.ev, .int .i64 a.ver, .int .i64 a.tm, .int .i64 a.n, .int .i64 a.of, .int .i64 a.grid, .slice A a.cells.length c, .bool a.wd, .int .i64 a.before, .slice S (sgN ks ss (digA a) k).length sc], .bool true])
        rw [sgN_len]
      · rw [sgN_len]
        exact own_more (base := w.heap.size + 1 + 1 + 1) (own_setCells (by omega) _ _ _ HST.out.own) (by omega)
      · exact below_setCells (by omega) _ _ _ _ hWB.out
end Go.Proofs.YtmpbhngjkbidcaaGreatDoor

/-
  The walks of slices.Clone at keys and at signatures.
-/
namespace Go.Proofs.YtmpbhngjkbidcaaGreatDoor
open Go.RowKit Al

theorem keyCells_one (ks : List (Int × Int)) : ∀ u ∈ keyCells ks, u.oneCell' = true := by
  intro u hu
  unfold keyCells at hu
  obtain ⟨k, _, hk⟩ := List.mem_flatMap.1 hu
  simp at hk
  rcases hk with rfl | rfl <;> rfl

theorem infoKey : (Tryz.prog.info? 94).map (fun i => (i.zero, i.size, i.bytes)) = some (some (.agg #[.int .i64 0, .int .i64 0]), 2, 16) := by kernel_rfl
/-- A list of pairs in memory of the call's own. -/
def OwnKey (base : Nat) (l : List (Int × Int)) (w : World) (e : Ending) (w' : World) : Prop := ∃ A c, e = .returned (.slice A l.length c) ∧ w'.ownsRow base 94 2 (.slice A l.length c) l.length (keyCells l) ∧ Below w.heap.size w w'
set_option maxRecDepth 100000 in
theorem CloneKey_ (l : List (Int × Int)) (A : Option Addr) (c : Nat) (w : World) (h : Sl w w.heap.size 2 A l.length c (keyCells l)) (hb : l.length * 16 ≤ 140737488355328) :
    Calls Tryz.prog 36 #[.slice A l.length c] w (OwnKey w.heap.size l w) := by
  obtain ⟨i0, hi, hz0, hz1, hz2⟩ := info_parts infoKey
  have q22 : ∀ (w : World) (a : Option Addr) (n c n' c' : Nat), (binOp .eql 31 (.slice a n c) (.slice none n' c')).run Tryz.prog w = .ok (.bool a.isNone) w := fun w a n c n' c' => Lib.run_eql_slice_nil w _ _ a n c n' c' Tryz.underlying31
  cases A with
  | none =>
    have hc := h.nil_ rfl
    have hl0 : l.length = 0 := by have := h.cap; omega
    have hl : l = [] := List.eq_nil_of_length_eq_zero hl0
    subst hl hc
    clear h hb hl0
    go_enter Tryz.func36, Tryz.ntmps36
    go_wp2_with fail
    go_ret
    exact ⟨none, 0, rfl, World.ownsRow_nil _ _ _ _, Below.refl _ _⟩
  | some ad =>
    have HS := Lib.hid h
    have hcm : l.length ≤ maxLen := Nat.le_trans h.cap h.max
    clear h
    have HO := Lib.hid (World.ownsRow_lit (base := w.heap.size) (e := 94) (size := 2) w #[] 0 (Nat.le_refl _) (by decide) rfl)
    have HB0 := Lib.hid ((Below.refl w.heap.size w).alloc (Nat.le_refl _) (.cells #[] 94))
    have HS2 := Lib.hid (HS.out.below HB0.out)
    go_enter Tryz.func36, Tryz.ntmps36
    go_wp2_with
      (at_builtin; go_must (refine wpList_append_sl rfl _ _ 31 rfl w.heap.size 94 i0 (.agg #[.int .i64 0, .int .i64 0]) 2 16 Tryz.underlying31 hi hz0 hz1 hz2 rfl (by decide) _ 0 _ rfl HO.out w.heap.size _ _ _ _ rfl HS2.out (keyCells_one l) (by omega) (by omega) (by simp) ?_); intro v' w1 hown hgrow _
       obtain ⟨A', c', rfl⟩ := own_form hown
       simp only [Nat.zero_add, List.nil_append] at hown
       have HB := Lib.hid (HB0.out.grown hgrow (by simp) (fun g hg => own_base HO.out hg))
       have HOWN := Lib.hid hown
       clear hgrow hown)
    go_ret
    exact ⟨A', c', rfl, by simpa using HOWN.out, HB.out⟩

theorem infoSigs : (Tryz.prog.info? 123).map (fun i => (i.zero, i.size, i.bytes)) = some (some (.agg #[.int .i64 0, .int .i64 0]), 2, 16) := by kernel_rfl
/-- A list of pairs in memory of the call's own. -/
def OwnSigs (base : Nat) (l : List (Int × Int)) (w : World) (e : Ending) (w' : World) : Prop := ∃ A c, e = .returned (.slice A l.length c) ∧ w'.ownsRow base 123 2 (.slice A l.length c) l.length (keyCells l) ∧ Below w.heap.size w w'
set_option maxRecDepth 100000 in
theorem CloneSigs_ (l : List (Int × Int)) (A : Option Addr) (c : Nat) (w : World) (h : Sl w w.heap.size 2 A l.length c (keyCells l)) (hb : l.length * 16 ≤ 140737488355328) :
    Calls Tryz.prog 86 #[.slice A l.length c] w (OwnSigs w.heap.size l w) := by
  obtain ⟨i0, hi, hz0, hz1, hz2⟩ := info_parts infoSigs
  have q22 : ∀ (w : World) (a : Option Addr) (n c n' c' : Nat), (binOp .eql 70 (.slice a n c) (.slice none n' c')).run Tryz.prog w = .ok (.bool a.isNone) w := fun w a n c n' c' => Lib.run_eql_slice_nil w _ _ a n c n' c' Tryz.underlying70
  cases A with
  | none =>
    have hc := h.nil_ rfl
    have hl0 : l.length = 0 := by have := h.cap; omega
    have hl : l = [] := List.eq_nil_of_length_eq_zero hl0
    subst hl hc
    clear h hb hl0
    go_enter Tryz.func86, Tryz.ntmps86
    go_wp2_with fail
    go_ret
    exact ⟨none, 0, rfl, World.ownsRow_nil _ _ _ _, Below.refl _ _⟩
  | some ad =>
    have HS := Lib.hid h
    have hcm : l.length ≤ maxLen := Nat.le_trans h.cap h.max
    clear h
    have HO := Lib.hid (World.ownsRow_lit (base := w.heap.size) (e := 123) (size := 2) w #[] 0 (Nat.le_refl _) (by decide) rfl)
    have HB0 := Lib.hid ((Below.refl w.heap.size w).alloc (Nat.le_refl _) (.cells #[] 123))
    have HS2 := Lib.hid (HS.out.below HB0.out)
    go_enter Tryz.func86, Tryz.ntmps86
    go_wp2_with
      (at_builtin; go_must (refine wpList_append_sl rfl _ _ 70 rfl w.heap.size 123 i0 (.agg #[.int .i64 0, .int .i64 0]) 2 16 Tryz.underlying70 hi hz0 hz1 hz2 rfl (by decide) _ 0 _ rfl HO.out w.heap.size _ _ _ _ rfl HS2.out (keyCells_one l) (by omega) (by omega) (by simp) ?_); intro v' w1 hown hgrow _
       obtain ⟨A', c', rfl⟩ := own_form hown
       simp only [Nat.zero_add, List.nil_append] at hown
       have HB := Lib.hid (HB0.out.grown hgrow (by simp) (fun g hg => own_base HO.out hg))
       have HOWN := Lib.hid hown
       clear hgrow hown)
    go_ret
    exact ⟨A', c', rfl, by simpa using HOWN.out, HB.out⟩
end Go.Proofs.YtmpbhngjkbidcaaGreatDoor

/-
  The walk of notice: a notice of its own memory.
-/
namespace Go.Proofs.YtmpbhngjkbidcaaGreatDoor
open Go.RowKit Al
attribute [local go_sem ↓] Go.wp_at_zero Go.wp_at_succ

/-- A notice whose cells and signatures lie in memory of the call's own. -/
def OwnN (n : Ntc) (w : World) (e : Ending) (w' : World) : Prop := ∃ A c S sc, e = .returned (n.val A c S sc) ∧ ARow w' w.heap.size n.a A c ∧ w'.ownsRow w.heap.size 123 2 (.slice S n.sg.length sc) n.sg.length (keyCells n.sg) ∧ Below w.heap.size w w'

set_option maxRecDepth 100000 in
set_option maxHeartbeats 2000000 in
theorem notice_ (n : Ntc) (A : Option Addr) (c : Nat) (S : Option Addr) (sc : Nat) (w : World) (h : NIn w n A c S sc) (hb : n.a.cells.length * 8 ≤ 140737488355328) (hb2 : n.sg.length * 16 ≤ 140737488355328) :
    Calls Tryz.prog 51 #[n.val A c S sc] w (OwnN n w) := by
  have HN := Lib.hid h
  clear h
  go_enter Tryz.func51, Tryz.ntmps51
  go_wp2_with fail
  go_region_held3 (fun w' => w'.cell? ⟨w.heap.size, 0, none⟩ = some (.string n.a.ev) ∧ w'.cell? ⟨w.heap.size, 1, none⟩ = some (.int .i64 n.a.ver) ∧ w'.cell? ⟨w.heap.size, 2, none⟩ = some (.int .i64 n.a.tm) ∧ w'.cell? ⟨w.heap.size, 3, none⟩ = some (.int .i64 n.a.n) ∧ w'.cell? ⟨w.heap.size, 4, none⟩ = some (.int .i64 n.a.of) ∧ w'.cell? ⟨w.heap.size, 5, none⟩ = some (.int .i64 n.a.grid) ∧ w'.cell? ⟨w.heap.size, 6, none⟩ = some (.slice A n.a.cells.length c) ∧ w'.cell? ⟨w.heap.size, 7, none⟩ = some (.bool n.a.wd) ∧ w'.cell? ⟨w.heap.size, 8, none⟩ = some (.int .i64 n.a.before) ∧ w'.cell? ⟨w.heap.size, 9, none⟩ = some (.slice S n.sg.length sc)) (first | go_keep | (refine ⟨?_, ?_, ?_, ?_, ?_, ?_, ?_, ?_, ?_, ?_⟩ <;> first | (rw [hcw3 _ _ (by simp; omega)]; simp [go_sem]; done) | (rw [hcw4 _ _ (by omega), hcw3 _ _ (by simp; omega)]; simp [go_sem]; done)))
    (first
      | ((go_at_call 45; refine (copied_ n.a A c _ (HN.out.al.below (by (repeat (first | exact Below.refl _ _ | assumption | refine below_drewN ?_ _ | refine Below.drew ?_ | refine Below.setCell ?_ (by first | omega | (simp; done) | (simp; omega)) _ | refine Below.alloc ?_ (by first | omega | (simp; done) | (simp; omega)) _)))) hb).mono ?_; rintro e w3 ⟨A', c', rfl, hown3, hbw3⟩; obtain ⟨hcw3, hfw3⟩ := bcell hbw3; have hB3 : Below w.heap.size w w3 := Below.trans (by (repeat (first | exact Below.refl _ _ | assumption | refine below_drewN ?_ _ | refine Below.drew ?_ | refine Below.setCell ?_ (by first | omega | (simp; done) | (simp; omega)) _ | refine Below.alloc ?_ (by first | omega | (simp; done) | (simp; omega)) _))) (hbw3.mono (by first | omega | (simp; omega))); have hz3 : w.heap.size + 1 < w3.heap.size := (by have := hbw3.size; (try simp at this); omega)))
      | ((go_at_call 86; refine (CloneSigs_ n.sg S sc _ (HN.out.below (by (repeat (first | exact Below.refl _ _ | assumption | refine below_drewN ?_ _ | refine Below.drew ?_ | refine Below.setCell ?_ (by first | omega | (simp; done) | (simp; omega)) _ | refine Below.alloc ?_ (by first | omega | (simp; done) | (simp; omega)) _)))).sl hb2).mono ?_; rintro e w4 ⟨S', sc', rfl, hown4, hbw4⟩; obtain ⟨hcw4, hfw4⟩ := bcell hbw4; have hB4 : Below w.heap.size w w4 := Below.trans (by (repeat (first | exact Below.refl _ _ | assumption | refine below_drewN ?_ _ | refine Below.drew ?_ | refine Below.setCell ?_ (by first | omega | (simp; done) | (simp; omega)) _ | refine Below.alloc ?_ (by first | omega | (simp; done) | (simp; omega)) _))) (hbw4.mono (by first | omega | (simp; omega))); have hz4 : w.heap.size + 1 < w4.heap.size := (by have := hbw4.size; (try simp at this); omega))))
  go_wp2_with fail
  refine finCells (w := w4) (w.heap.size + 1) (ntL n.a A' c' S' n.sg.length sc') (n.val A' c' S' sc') rfl ?_ ?_ (show OwnN n w _ _ from ⟨A', c', S', sc', rfl, ?_, ?_, ?_⟩)
  · intro W hW
    have r0 := hW 0 (by simp)
    have r1 := hW 1 (by simp)
    have r2 := hW 2 (by simp)
    have r3 := hW 3 (by simp)
    have r4 := hW 4 (by simp)
    have r5 := hW 5 (by simp)
    have r6 := hW 6 (by simp)
    have r7 := hW 7 (by simp)
    have r8 := hW 8 (by simp)
    have r9 := hW 9 (by simp)
    clear hW
    simp only [List.getElem_cons_zero, List.getElem_cons_succ] at r0 r1 r2 r3 r4 r5 r6 r7 r8 r9
    simp [results, Tryz.results51, go_sem, r0, r1, r2, r3, r4, r5, r6, r7, r8, r9]
  · refine lt10 ?_
    simp [go_sem, hcw4, hcw3, hz3]
  · refine own_more (base := w.heap.size + 1 + 1) (own_setCells (by omega) _ _ _ (own_below ?_ (Nat.le_refl _) hbw4)) (by omega)
    have := hown3
    simp at this
    exact this
  · exact own_more (base := w3.heap.size) (own_setCells (by omega) _ _ _ hown4) (by omega)
  · exact below_setCells (by omega) _ _ _ _ hB4
end Go.Proofs.YtmpbhngjkbidcaaGreatDoor
