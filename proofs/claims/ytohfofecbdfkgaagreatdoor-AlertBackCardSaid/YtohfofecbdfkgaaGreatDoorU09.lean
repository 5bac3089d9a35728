/-
  The walks of the helpers of the laws: first, ring.
-/
import Derived.Test.YtohfofecbdfkgaaGreatDoorU08
import Derived.Deep.DeepMust
import Derived.Lib.SliceRun
import Derived.Deep.RegionHeld3
import Derived.Deep.DrawnRows
import Derived.Maps.OwnSet
namespace Go.Proofs.YtohfofecbdfkgaaGreatDoor
open Go.RowKit Al

/-- The alert of the chapter's examples. -/
def fstA : Alr := ⟨⟨#[115, 49]⟩, 1, 5, 1, 20, 1, [0, 3], false, 0⟩
set_option maxRecDepth 100000 in
theorem first_ (w : World) : Calls Tryz.prog 18 #[] w (OwnA fstA w) := by
  go_enter Tryz.func18, Tryz.ntmps18
  go_wp2_with fail
  refine bodyPost_ret (v := fstA.val (some ⟨w.heap.size + 1, 0, none⟩) 2) (by simp [results, Tryz.results18, go_sem, fstA]) rfl ⟨some ⟨w.heap.size + 1, 0, none⟩, 2, rfl, ?_, (by repeat (first | exact Below.refl _ _ | assumption | refine below_drewN ?_ _ | refine Below.drew ?_ | refine Below.setCell ?_ (by first | omega | (simp; done) | (simp; omega)) _ | refine Below.alloc ?_ (by first | omega | (simp; done) | (simp; omega)) _))⟩
  have h := World.ownsRow_lit (base := w.heap.size) (e := 3) (size := 1) (w.alloc (.cells #[.string ⟨#[115, 49]⟩, .int .i64 1, .int .i64 5, .int .i64 1, .int .i64 20, .int .i64 1, .slice (some ⟨w.heap.size + 1, 0, none⟩) 2 2, .bool false, .int .i64 0] 48)) #[.int .i64 0, .int .i64 3] 2 (by simp) (by decide) rfl
  simp at h
  exact h

/-- The keys of the chapter's examples, and their secrets. -/
def ringK : List (Int × Int) := [(33, 7), (35, 5), (15, 3)]
def ringS : List Int := [3, 5, 3]
/-- What ring hands back. -/
def RingT (w : World) (e : Ending) (w' : World) : Prop := ∃ K kc S sc, e = .returned (.tuple #[.slice K 3 kc, .slice S 3 sc]) ∧ w'.ownsRow w.heap.size 36 2 (.slice K 3 kc) 3 (keyCells ringK) ∧ w'.ownsRow w.heap.size 3 1 (.slice S 3 sc) 3 (ints ringS) ∧ Below w.heap.size w w'
set_option maxRecDepth 100000 in
theorem ring_ (w : World) : Calls Tryz.prog 15 #[] w (RingT w) := by
  go_enter Tryz.func15, Tryz.ntmps15
  go_wp2_with fail
  go_ret2
  have h1 := World.ownsRow_lit (base := w.heap.size) (e := 36) (size := 2) w #[.int .i64 33, .int .i64 7, .int .i64 35, .int .i64 5, .int .i64 15, .int .i64 3] 3 (Nat.le_refl _) (by decide) rfl
  have h2 := World.ownsRow_lit (base := w.heap.size) (e := 3) (size := 1) (w.alloc (.cells #[.int .i64 33, .int .i64 7, .int .i64 35, .int .i64 5, .int .i64 15, .int .i64 3] 36)) #[.int .i64 3, .int .i64 5, .int .i64 3] 3 (by simp) (by decide) rfl
  simp at h2
  exact ⟨some ⟨w.heap.size, 0, none⟩, 3, some ⟨w.heap.size + 1, 0, none⟩, 3, rfl, own_below h1 (Nat.le_refl _) ((Below.refl _ _).alloc (Nat.le_refl _) _), h2, (by repeat (first | exact Below.refl _ _ | assumption | refine below_drewN ?_ _ | refine Below.drew ?_ | refine Below.setCell ?_ (by first | omega | (simp; done) | (simp; omega)) _ | refine Below.alloc ?_ (by first | omega | (simp; done) | (simp; omega)) _))⟩
end Go.Proofs.YtohfofecbdfkgaaGreatDoor

/-
  The walk of the helper that signs an alert by the first keys.
-/
namespace Go.Proofs.YtohfofecbdfkgaaGreatDoor
open Go.RowKit Al

/-- The signatures by the first k keys. -/
def sgN (ks : List (Int × Int)) (ss : List Int) (d : Int) (k : Nat) : List (Int × Int) := (List.range k).map fun (i : Nat) => ((i : Int), pw d (ss.getD i 0) (ks.getD i (0, 0)).1)
theorem sgN_len (ks : List (Int × Int)) (ss : List Int) (d : Int) (k : Nat) : (sgN ks ss d k).length = k := by simp [sgN]
theorem sgN_succ {ks : List (Int × Int)} {ss : List Int} {d : Int} {k : Nat} (h : k < ks.length) (h' : k < ss.length) : sgN ks ss d (k + 1) = sgN ks ss d k ++ [((k : Int), pw d ss[k] ks[k].1)] := by
  unfold sgN
  rw [List.range_succ, List.map_append]
  simp [List.getD, h, h']
theorem keyCells_snoc (ks : List (Int × Int)) (k : Int × Int) : keyCells (ks ++ [k]) = keyCells ks ++ [.int .i64 k.1, .int .i64 k.2] := by simp [keyCells]
theorem infoSig : (Tryz.prog.info? 106).map (fun i => (i.zero, i.size, i.bytes)) = some (some (.agg #[.int .i64 0, .int .i64 0]), 2, 16) := by kernel_rfl
theorem Sign_is (m x s : Int) (a : Alr) (A : Option Addr) (c : Nat) (w : World) (h1 : plaus m x = true) (h2 : inB s 1 1073741824 = true) (hk : okA a = true) (h : AIn w a A c) (hr : Rdy w) :
    Calls Tryz.prog 56 #[.agg #[.int .i64 m, .int .i64 x], .int .i64 s, a.val A c] w fun e w' => e = .returned (.tuple #[.int .i64 (pw (digA a) s m), .int .i64 0]) ∧ Below w.heap.size w w' := by
  have := Sign_ m x s a A c w h hr
  rw [signE_ok h1 h2 hk] at this
  exact this

theorem two_one (x y : Int) : ∀ u ∈ (#[.int .i64 x, .int .i64 y] : Array Value).toList, u.oneCell' = true := by
  intro u hu
  simp at hu
  rcases hu with rfl | rfl <;> rfl
theorem own_base {w : World} {base e sz n g : Nat} {v : Value} {xs : List Value} (h : w.ownsRow base e sz v n xs) (hg : v.ownBlock = some g) : base ≤ g := by
  rcases h.2 with ⟨rfl, _⟩ | ⟨g', cap, cur, rfl, hb, _⟩
  · cases hg
  · cases hg; exact hb

@[reducible] def ntL (a : Alr) (A : Option Addr) (c : Nat) (S : Option Addr) (k sc : Nat) : List Value :=
  [.string a.ev, .int .i64 a.ver, .int .i64 a.tm, .int .i64 a.n, .int .i64 a.of, .int .i64 a.grid, .slice A a.cells.length c, .bool a.wd, .int .i64 a.before, .slice S k sc]
theorem lt10 {p : Nat → Prop} (h : p 0 ∧ p 1 ∧ p 2 ∧ p 3 ∧ p 4 ∧ p 5 ∧ p 6 ∧ p 7 ∧ p 8 ∧ p 9) : ∀ j, j < 10 → p j
  | 0, _ => h.1 | 1, _ => h.2.1 | 2, _ => h.2.2.1 | 3, _ => h.2.2.2.1 | 4, _ => h.2.2.2.2.1 | 5, _ => h.2.2.2.2.2.1 | 6, _ => h.2.2.2.2.2.2.1 | 7, _ => h.2.2.2.2.2.2.2.1 | 8, _ => h.2.2.2.2.2.2.2.2.1 | 9, _ => h.2.2.2.2.2.2.2.2.2
  | n + 10, h' => absurd h' (by omega)

/-- Where the notice lies while it is made: the block of the alert given, that of the notice. -/
structure SgSt (w w0 wr : World) (a : Alr) (A : Option Addr) (c : Nat) (ks : List (Int × Int)) (ss : List Int) (k : Nat) (S : Option Addr) (sc : Nat) : Prop where
  bel : Below (w.heap.size + 1 + 1) w0 wr
  n0 : wr.cell? ⟨w.heap.size + 1 + 1, 0, none⟩ = some (.string a.ev)
  n1 : wr.cell? ⟨w.heap.size + 1 + 1, 1, none⟩ = some (.int .i64 a.ver)
  n2 : wr.cell? ⟨w.heap.size + 1 + 1, 2, none⟩ = some (.int .i64 a.tm)
  n3 : wr.cell? ⟨w.heap.size + 1 + 1, 3, none⟩ = some (.int .i64 a.n)
  n4 : wr.cell? ⟨w.heap.size + 1 + 1, 4, none⟩ = some (.int .i64 a.of)
  n5 : wr.cell? ⟨w.heap.size + 1 + 1, 5, none⟩ = some (.int .i64 a.grid)
  n6 : wr.cell? ⟨w.heap.size + 1 + 1, 6, none⟩ = some (.slice A a.cells.length c)
  n7 : wr.cell? ⟨w.heap.size + 1 + 1, 7, none⟩ = some (.bool a.wd)
  n8 : wr.cell? ⟨w.heap.size + 1 + 1, 8, none⟩ = some (.int .i64 a.before)
  n9 : wr.cell? ⟨w.heap.size + 1 + 1, 9, none⟩ = some (.slice S k sc)
  fz : wr.frozen? ⟨w.heap.size + 1 + 1, 9, none⟩ = false
  own : wr.ownsRow (w.heap.size + 1 + 1 + 1) 106 2 (.slice S k sc) k (keyCells (sgN ks ss (digA a) k))
  size : w.heap.size + 1 + 1 + 1 ≤ wr.heap.size
def SgRel (w w0 wr : World) (a : Alr) (A : Option Addr) (c : Nat) (ks : List (Int × Int)) (ss : List Int) (i : Value) (m : Nat) : Prop := ∃ (k : Nat) (S : Option Addr) (sc : Nat), k ≤ m ∧ i = .int .i64 k ∧ SgSt w w0 wr a A c ks ss k S sc
/-- What it hands back: the notice; its signatures lie in memory of the call's own. -/
def SgT (a : Alr) (A : Option Addr) (c : Nat) (sg : List (Int × Int)) (w : World) (e : Ending) (w' : World) : Prop := ∃ S sc, e = .returned (.tuple #[(⟨a, sg⟩ : Ntc).val A c S sc, .bool true]) ∧ w'.ownsRow w.heap.size 106 2 (.slice S sg.length sc) sg.length (keyCells sg) ∧ Below w.heap.size w w'

set_option maxRecDepth 100000 in
set_option maxHeartbeats 2000000 in
theorem lawsigned_ (ks : List (Int × Int)) (K : Option Addr) (kc : Nat) (ss : List Int) (Z : Option Addr) (zc : Nat) (a : Alr) (A : Option Addr) (c : Nat) (m : Nat) (w : World)
    (hk : Sl w w.heap.size 2 K ks.length kc (keyCells ks)) (hs : Sl w w.heap.size 1 Z ss.length zc (ints ss)) (ha : AIn w a A c) (hr : Rdy w) (hok : okA a = true)
    (hpl : ∀ i (h : i < ks.length), plaus ks[i].1 ks[i].2 = true) (hsc : ∀ i (h : i < ss.length), inB ss[i] 1 1073741824 = true) (hm : m ≤ ks.length) (hks : ks.length ≤ ss.length) (hb : ks.length ≤ 1048576) :
    Calls Tryz.prog 19 #[.slice K ks.length kc, .slice Z ss.length zc, a.val A c, .int .i64 m] w (SgT a A c (sgN ks ss (digA a) m) w) := by
  obtain ⟨i0, hi, hz0, hz1, hz2⟩ := info_parts infoSig
  have HK := Lib.hid hk
  have HS := Lib.hid hs
  have HA := Lib.hid ha
  have HR := Lib.hid hr
  have HO := Lib.hid hok
  have HP := Lib.hid hpl
  have HC := Lib.hid hsc
  have hlz : ss.length ≤ maxLen := Nat.le_trans hs.cap hs.max
  unfold maxLen at hlz
  clear hk hs ha hr hok hpl hsc
  go_enter Tryz.func19, Tryz.ntmps19
  go_wp2_with fail
  go_loopw [11] (fun i wr => SgRel w ((w.alloc (.cells (a.val A c).cells 48)).alloc (.cells #[.string ⟨#[]⟩, .int .i64 0, .int .i64 0, .int .i64 0, .int .i64 0, .int .i64 0, .slice none 0 0, .bool false, .int .i64 0, .slice none 0 0] 54)) wr a A c ks ss i m) (fun i _ => m - (intOf i).toNat)
  case atStart =>
    refine ⟨0, none, 0, Nat.zero_le _, rfl, ⟨(Below.refl _ _).alloc (by simp) _, ?_, ?_, ?_, ?_, ?_, ?_, ?_, ?_, ?_, ?_, ?_, World.ownsRow_nil _ _ _ _, by simp⟩⟩ <;> simp [go_sem]
  case round =>
    obtain ⟨k, S, sc, hkm, rfl, hst⟩ := hrel
    have hB := hst.bel
    have hn0 := hst.n0
    have hn1 := hst.n1
    have hn2 := hst.n2
    have hn3 := hst.n3
    have hn4 := hst.n4
    have hn5 := hst.n5
    have hn6 := hst.n6
    have hn7 := hst.n7
    have hn8 := hst.n8
    have hn9 := hst.n9
    have hf9 := hst.fz
    have hsz := hst.size
    have HST := Lib.hid hst
    obtain ⟨hcw, hfw⟩ := bcell hB
    have HB := Lib.hid hB
    have hWB : Hid (Below w.heap.size w wr) := ((show Below w.heap.size w _ from by (repeat (first | exact Below.refl _ _ | assumption | refine below_drewN ?_ _ | refine Below.drew ?_ | refine Below.setCell ?_ (by first | omega | (simp; done) | (simp; omega)) _ | refine Below.alloc ?_ (by first | omega | (simp; done) | (simp; omega)) _))).trans (hB.mono (by omega)))
    clear hB hst
    by_cases hlt : k < m
    · have hkl : k < ks.length := by omega
      have hzl : k < ss.length := by omega
      obtain ⟨kb, ko, rfl, hkb, hk1, hk2⟩ := (HK.out.below hWB.out).key_at hkl
      obtain ⟨zb, zo, rfl, hzb, hzc⟩ := (HS.out.below hWB.out).int_at hzl hzl
      have hlt' : (k : Int) < (m : Int) := by omega
      have hkl' : (k : Int) < (ks.length : Int) := by omega
      have hzl' : (k : Int) < (ss.length : Int) := by omega
      have hk0 : (0 : Int) ≤ (k : Int) := by omega
      have hz7 : w.heap.size < wr.heap.size := by omega
      have hz8 : w.heap.size + 1 < wr.heap.size := by omega
      have hz9 : w.heap.size + 1 + 1 < wr.heap.size := by omega
      have hkb2 : kb < wr.heap.size := by omega
      have hzb2 : zb < wr.heap.size := by omega
      have P1 := Lib.hid (HP.out k hkl)
      have P2 := Lib.hid (HC.out k hzl)
      go_wp2_with fail
      refine wp_region_bw2 (by kernel_rfl) (by kernel_rfl) (fun hbwc => ?_)
      repeat (go_big_quiet_step ((go_at_call 56; exact bwCall (Sign_is _ _ _ a A c _ P1.out P2.out HO.out (AIn.below (HA.out.below hWB.out) (BW.below _)) (Rdy.below (HR.out.below hWB.out) (BW.below _))))))
      refine wpQuiet_nil ?_
      clear hbwc
      intro w3 hb
      obtain ⟨hcw3, hfw3⟩ := bcell hb
      have hz10 := hb.size
      have HB3 := Lib.hid hb
      clear hb
      have HOW := Lib.hid (own_below (own_below HST.out.own (Nat.le_refl _) HB3.out) (Nat.le_refl _) ((Below.refl _ _).alloc (Nat.le_refl _) (.cells #[.int .i64 k, .int .i64 (pw (digA a) ss[k] ks[k].1)] 106)))
      have HSL := Lib.hid (Sl.of_own (World.ownsRow_lit (base := 0) (e := 106) (size := 2) w3 #[.int .i64 k, .int .i64 (pw (digA a) ss[k] ks[k].1)] 1 (Nat.zero_le _) (by decide) rfl))
      go_wp2_with
        (at_builtin; go_must (refine wpList_append_sl rfl _ _ 52 rfl (w.heap.size + 1 + 1 + 1) 106 i0 (.agg #[.int .i64 0, .int .i64 0]) 2 16 Tryz.underlying52 hi hz0 hz1 hz2 rfl (by decide) _ k _ rfl HOW.out _ _ 1 1 _ rfl HSL.out (two_one _ _) (by unfold maxLen; omega) (by omega) (by simp; omega) ?_); intro v' w4 hown hgrow _
         obtain ⟨S', sc', rfl⟩ := own_form hown
         have hg4 := (Below.refl (w.heap.size + 1 + 1 + 1) _).grown hgrow (by simp; omega) (fun g hg => own_base HOW.out hg)
         obtain ⟨hcw4, hfw4⟩ := bcell hg4
         have HG4 := Lib.hid hg4
         have HOWN := Lib.hid hown
         have hz11 := hg4.size
         simp at hz11
         have hz12 : w.heap.size + 1 + 1 < w3.heap.size := by omega
         have hz13 : w.heap.size + 1 + 1 < w4.heap.size := by omega
         clear hgrow hg4 hown)
      go_roundw
      case rel =>
        have hsn := sgN_succ (d := digA a) hkl hzl
        refine ⟨k + 1, S', sc', by omega, by go_num, ⟨?_, ?_, ?_, ?_, ?_, ?_, ?_, ?_, ?_, ?_, ?_, ?_, ?_, ?_⟩⟩
        case refine_1 => exact (((HB.out.trans (HB3.out.mono (by omega))).alloc (by omega) _).trans (HG4.out.mono (by omega))).setCell (by simp) _
        case refine_13 =>
          rw [hsn, keyCells_snoc]
          exact ownsRow_setCell_below HOWN.out (by simp) _
        case refine_14 => simp; omega
        all_goals simp [go_sem, hcw4, hfw4, hcw3, hfw3, hn0, hn1, hn2, hn3, hn4, hn5, hn6, hn7, hn8, hn9, hf9, hz9, hz12]
      case measure => simp [intOf]; omega
    · obtain rfl : k = m := by omega
      go_wp2_with fail
      have hz8 : w.heap.size + 1 < wr.heap.size := by omega
      refine finCells (w := wr) (w.heap.size + 1) (ntL a A c S k sc) (.tuple #[.agg (ntL a A c S k sc).toArray, .bool true]) rfl ?_ ?_ (show SgT a A c (sgN ks ss (digA a) k) w _ _ from ⟨S, sc, ?_, ?_, ?_⟩)
      · intro W hW
        have r0 := hW 0 (by simp)
        have r1 := hW 1 (by simp)
        have r2 := hW 2 (by simp)
        have r3 := hW 3 (by simp)
        have r4 := hW 4 (by simp)
        have r5 := hW 5 (by simp)
        have r6 := hW 6 (by simp)
        have r7 := hW 7 (by simp)
        have r8 := hW 8 (by simp)
        have r9 := hW 9 (by simp)
        clear hW
        simp only [List.getElem_cons_zero, List.getElem_cons_succ] at r0 r1 r2 r3 r4 r5 r6 r7 r8 r9
        simp [results, Tryz.results19, go_sem, r0, r1, r2, r3, r4, r5, r6, r7, r8, r9]
      · refine lt10 ?_
        simp [go_sem, hcw]
      · show _ = Ending.returned (.tuple #[.agg #[.string a.ev, .int .i64 a.ver, .int .i64 a.tm, .int .i64 a.n, .int .i64 a.of, .int .i64 a.grid, .slice A a.cells.length c, .bool a.wd, .int .i64 a.before, .slice S (sgN ks ss (digA a) k).length sc], .bool true])
        rw [sgN_len]
      · rw [sgN_len]
        exact own_more (base := w.heap.size + 1 + 1 + 1) (own_setCells (by omega) _ _ _ HST.out.own) (by omega)
      · exact below_setCells (by omega) _ _ _ _ hWB.out
end Go.Proofs.YtohfofecbdfkgaaGreatDoor

/-
  The walks of slices.Clone at keys and at signatures.
-/
namespace Go.Proofs.YtohfofecbdfkgaaGreatDoor
open Go.RowKit Al

theorem keyCells_one (ks : List (Int × Int)) : ∀ u ∈ keyCells ks, u.oneCell' = true := by
  intro u hu
  unfold keyCells at hu
  obtain ⟨k, _, hk⟩ := List.mem_flatMap.1 hu
  simp at hk
  rcases hk with rfl | rfl <;> rfl

theorem infoKey : (Tryz.prog.info? 36).map (fun i => (i.zero, i.size, i.bytes)) = some (some (.agg #[.int .i64 0, .int .i64 0]), 2, 16) := by kernel_rfl
/-- A list of pairs in memory of the call's own. -/
def OwnKey (base : Nat) (l : List (Int × Int)) (w : World) (e : Ending) (w' : World) : Prop := ∃ A c, e = .returned (.slice A l.length c) ∧ w'.ownsRow base 36 2 (.slice A l.length c) l.length (keyCells l) ∧ Below w.heap.size w w'
set_option maxRecDepth 100000 in
theorem CloneKey_ (l : List (Int × Int)) (A : Option Addr) (c : Nat) (w : World) (h : Sl w w.heap.size 2 A l.length c (keyCells l)) (hb : l.length * 16 ≤ 140737488355328) :
    Calls Tryz.prog 53 #[.slice A l.length c] w (OwnKey w.heap.size l w) := by
  obtain ⟨i0, hi, hz0, hz1, hz2⟩ := info_parts infoKey
  have q22 : ∀ (w : World) (a : Option Addr) (n c n' c' : Nat), (binOp .eql 22 (.slice a n c) (.slice none n' c')).run Tryz.prog w = .ok (.bool a.isNone) w := fun w a n c n' c' => Lib.run_eql_slice_nil w _ _ a n c n' c' Tryz.underlying22
  cases A with
  | none =>
    have hc := h.nil_ rfl
    have hl0 : l.length = 0 := by have := h.cap; omega
    have hl : l = [] := List.eq_nil_of_length_eq_zero hl0
    subst hl hc
    clear h hb hl0
    go_enter Tryz.func53, Tryz.ntmps53
    go_wp2_with fail
    go_ret
    exact ⟨none, 0, rfl, World.ownsRow_nil _ _ _ _, Below.refl _ _⟩
  | some ad =>
    have HS := Lib.hid h
    have hcm : l.length ≤ maxLen := Nat.le_trans h.cap h.max
    clear h
    have HO := Lib.hid (World.ownsRow_lit (base := w.heap.size) (e := 36) (size := 2) w #[] 0 (Nat.le_refl _) (by decide) rfl)
    have HB0 := Lib.hid ((Below.refl w.heap.size w).alloc (Nat.le_refl _) (.cells #[] 36))
    have HS2 := Lib.hid (HS.out.below HB0.out)
    go_enter Tryz.func53, Tryz.ntmps53
    go_wp2_with
      (at_builtin; go_must (refine wpList_append_sl rfl _ _ 22 rfl w.heap.size 36 i0 (.agg #[.int .i64 0, .int .i64 0]) 2 16 Tryz.underlying22 hi hz0 hz1 hz2 rfl (by decide) _ 0 _ rfl HO.out w.heap.size _ _ _ _ rfl HS2.out (keyCells_one l) (by omega) (by omega) (by simp) ?_); intro v' w1 hown hgrow _
       obtain ⟨A', c', rfl⟩ := own_form hown
       simp only [Nat.zero_add, List.nil_append] at hown
       have HB := Lib.hid (HB0.out.grown hgrow (by simp) (fun g hg => own_base HO.out hg))
       have HOWN := Lib.hid hown
       clear hgrow hown)
    go_ret
    exact ⟨A', c', rfl, by simpa using HOWN.out, HB.out⟩

theorem infoSigs : (Tryz.prog.info? 106).map (fun i => (i.zero, i.size, i.bytes)) = some (some (.agg #[.int .i64 0, .int .i64 0]), 2, 16) := by kernel_rfl
/-- A list of pairs in memory of the call's own. -/
def OwnSigs (base : Nat) (l : List (Int × Int)) (w : World) (e : Ending) (w' : World) : Prop := ∃ A c, e = .returned (.slice A l.length c) ∧ w'.ownsRow base 106 2 (.slice A l.length c) l.length (keyCells l) ∧ Below w.heap.size w w'
set_option maxRecDepth 100000 in
theorem CloneSigs_ (l : List (Int × Int)) (A : Option Addr) (c : Nat) (w : World) (h : Sl w w.heap.size 2 A l.length c (keyCells l)) (hb : l.length * 16 ≤ 140737488355328) :
    Calls Tryz.prog 98 #[.slice A l.length c] w (OwnSigs w.heap.size l w) := by
  obtain ⟨i0, hi, hz0, hz1, hz2⟩ := info_parts infoSigs
  have q22 : ∀ (w : World) (a : Option Addr) (n c n' c' : Nat), (binOp .eql 52 (.slice a n c) (.slice none n' c')).run Tryz.prog w = .ok (.bool a.isNone) w := fun w a n c n' c' => Lib.run_eql_slice_nil w _ _ a n c n' c' Tryz.underlying52
  cases A with
  | none =>
    have hc := h.nil_ rfl
    have hl0 : l.length = 0 := by have := h.cap; omega
    have hl : l = [] := List.eq_nil_of_length_eq_zero hl0
    subst hl hc
    clear h hb hl0
    go_enter Tryz.func98, Tryz.ntmps98
    go_wp2_with fail
    go_ret
    exact ⟨none, 0, rfl, World.ownsRow_nil _ _ _ _, Below.refl _ _⟩
  | some ad =>
    have HS := Lib.hid h
    have hcm : l.length ≤ maxLen := Nat.le_trans h.cap h.max
    clear h
    have HO := Lib.hid (World.ownsRow_lit (base := w.heap.size) (e := 106) (size := 2) w #[] 0 (Nat.le_refl _) (by decide) rfl)
    have HB0 := Lib.hid ((Below.refl w.heap.size w).alloc (Nat.le_refl _) (.cells #[] 106))
    have HS2 := Lib.hid (HS.out.below HB0.out)
    go_enter Tryz.func98, Tryz.ntmps98
    go_wp2_with
      (at_builtin; go_must (refine wpList_append_sl rfl _ _ 52 rfl w.heap.size 106 i0 (.agg #[.int .i64 0, .int .i64 0]) 2 16 Tryz.underlying52 hi hz0 hz1 hz2 rfl (by decide) _ 0 _ rfl HO.out w.heap.size _ _ _ _ rfl HS2.out (keyCells_one l) (by omega) (by omega) (by simp) ?_); intro v' w1 hown hgrow _
       obtain ⟨A', c', rfl⟩ := own_form hown
       simp only [Nat.zero_add, List.nil_append] at hown
       have HB := Lib.hid (HB0.out.grown hgrow (by simp) (fun g hg => own_base HO.out hg))
       have HOWN := Lib.hid hown
       clear hgrow hown)
    go_ret
    exact ⟨A', c', rfl, by simpa using HOWN.out, HB.out⟩
end Go.Proofs.YtohfofecbdfkgaaGreatDoor

/-
  The walk of notice: a notice of its own memory.
-/
namespace Go.Proofs.YtohfofecbdfkgaaGreatDoor
open Go.RowKit Al
attribute [local go_sem ↓] Go.wp_at_zero Go.wp_at_succ

/-- A notice whose cells and signatures lie in memory of the call's own. -/
def OwnN (n : Ntc) (w : World) (e : Ending) (w' : World) : Prop := ∃ A c S sc, e = .returned (n.val A c S sc) ∧ ARow w' w.heap.size n.a A c ∧ w'.ownsRow w.heap.size 106 2 (.slice S n.sg.length sc) n.sg.length (keyCells n.sg) ∧ Below w.heap.size w w'

set_option maxRecDepth 100000 in
set_option maxHeartbeats 2000000 in
theorem notice_ (n : Ntc) (A : Option Addr) (c : Nat) (S : Option Addr) (sc : Nat) (w : World) (h : NIn w n A c S sc) (hb : n.a.cells.length * 8 ≤ 140737488355328) (hb2 : n.sg.length * 16 ≤ 140737488355328) :
    Calls Tryz.prog 59 #[n.val A c S sc] w (OwnN n w) := by
  have HN := Lib.hid h
  clear h
  go_enter Tryz.func59, Tryz.ntmps59
  go_wp2_with fail
  go_region_held3 (fun w' => w'.cell? ⟨w.heap.size, 0, none⟩ = some (.string n.a.ev) ∧ w'.cell? ⟨w.heap.size, 1, none⟩ = some (.int .i64 n.a.ver) ∧ w'.cell? ⟨w.heap.size, 2, none⟩ = some (.int .i64 n.a.tm) ∧ w'.cell? ⟨w.heap.size, 3, none⟩ = some (.int .i64 n.a.n) ∧ w'.cell? ⟨w.heap.size, 4, none⟩ = some (.int .i64 n.a.of) ∧ w'.cell? ⟨w.heap.size, 5, none⟩ = some (.int .i64 n.a.grid) ∧ w'.cell? ⟨w.heap.size, 6, none⟩ = some (.slice A n.a.cells.length c) ∧ w'.cell? ⟨w.heap.size, 7, none⟩ = some (.bool n.a.wd) ∧ w'.cell? ⟨w.heap.size, 8, none⟩ = some (.int .i64 n.a.before) ∧ w'.cell? ⟨w.heap.size, 9, none⟩ = some (.slice S n.sg.length sc)) (first | go_keep | (refine ⟨?_, ?_, ?_, ?_, ?_, ?_, ?_, ?_, ?_, ?_⟩ <;> first | (rw [hcw3 _ _ (by simp; omega)]; simp [go_sem]; done) | (rw [hcw4 _ _ (by omega), hcw3 _ _ (by simp; omega)]; simp [go_sem]; done)))
    (first
      | ((go_at_call 60; refine (copied_ n.a A c _ (HN.out.al.below (by (repeat (first | exact Below.refl _ _ | assumption | refine below_drewN ?_ _ | refine Below.drew ?_ | refine Below.setCell ?_ (by first | omega | (simp; done) | (simp; omega)) _ | refine Below.alloc ?_ (by first | omega | (simp; done) | (simp; omega)) _)))) hb).mono ?_; rintro e w3 ⟨A', c', rfl, hown3, hbw3⟩; obtain ⟨hcw3, hfw3⟩ := bcell hbw3; have hB3 : Below w.heap.size w w3 := Below.trans (by (repeat (first | exact Below.refl _ _ | assumption | refine below_drewN ?_ _ | refine Below.drew ?_ | refine Below.setCell ?_ (by first | omega | (simp; done) | (simp; omega)) _ | refine Below.alloc ?_ (by first | omega | (simp; done) | (simp; omega)) _))) (hbw3.mono (by first | omega | (simp; omega))); have hz3 : w.heap.size + 1 < w3.heap.size := (by have := hbw3.size; (try simp at this); omega)))
      | ((go_at_call 98; refine (CloneSigs_ n.sg S sc _ (HN.out.below (by (repeat (first | exact Below.refl _ _ | assumption | refine below_drewN ?_ _ | refine Below.drew ?_ | refine Below.setCell ?_ (by first | omega | (simp; done) | (simp; omega)) _ | refine Below.alloc ?_ (by first | omega | (simp; done) | (simp; omega)) _)))).sl hb2).mono ?_; rintro e w4 ⟨S', sc', rfl, hown4, hbw4⟩; obtain ⟨hcw4, hfw4⟩ := bcell hbw4; have hB4 : Below w.heap.size w w4 := Below.trans (by (repeat (first | exact Below.refl _ _ | assumption | refine below_drewN ?_ _ | refine Below.drew ?_ | refine Below.setCell ?_ (by first | omega | (simp; done) | (simp; omega)) _ | refine Below.alloc ?_ (by first | omega | (simp; done) | (simp; omega)) _))) (hbw4.mono (by first | omega | (simp; omega))); have hz4 : w.heap.size + 1 < w4.heap.size := (by have := hbw4.size; (try simp at this); omega))))
  go_wp2_with fail
  refine finCells (w := w4) (w.heap.size + 1) (ntL n.a A' c' S' n.sg.length sc') (n.val A' c' S' sc') rfl ?_ ?_ (show OwnN n w _ _ from ⟨A', c', S', sc', rfl, ?_, ?_, ?_⟩)
  · intro W hW
    have r0 := hW 0 (by simp)
    have r1 := hW 1 (by simp)
    have r2 := hW 2 (by simp)
    have r3 := hW 3 (by simp)
    have r4 := hW 4 (by simp)
    have r5 := hW 5 (by simp)
    have r6 := hW 6 (by simp)
    have r7 := hW 7 (by simp)
    have r8 := hW 8 (by simp)
    have r9 := hW 9 (by simp)
    clear hW
    simp only [List.getElem_cons_zero, List.getElem_cons_succ] at r0 r1 r2 r3 r4 r5 r6 r7 r8 r9
    simp [results, Tryz.results59, go_sem, r0, r1, r2, r3, r4, r5, r6, r7, r8, r9]
  · refine lt10 ?_
    simp [go_sem, hcw4, hcw3, hz3]
  · refine own_more (base := w.heap.size + 1 + 1) (own_setCells (by omega) _ _ _ (own_below ?_ (Nat.le_refl _) hbw4)) (by omega)
    have := hown3
    simp at this
    exact this
  · exact own_more (base := w3.heap.size) (own_setCells (by omega) _ _ _ hown4) (by omega)
  · exact below_setCells (by omega) _ _ _ _ hB4
end Go.Proofs.YtohfofecbdfkgaaGreatDoor

/-
  Boards in memory: frames that name blocks; maps of alerts; what a board is; the walk of none.
-/
namespace Go.Proofs.YtohfofecbdfkgaaGreatDoor
open Go.RowKit Al

/-- Of the blocks that were there none but those of F has turned. -/
structure Kp (F : Nat → Prop) (w w' : World) : Prop where
  os : w'.os = w.os
  tape : w'.tape = w.tape
  output : w'.output = w.output
  size : w.heap.size ≤ w'.heap.size
  block : ∀ k, k < w.heap.size → ¬ F k → w'.heap[k]? = w.heap[k]?
theorem Kp.refl (F : Nat → Prop) (w : World) : Kp F w w := ⟨rfl, rfl, rfl, Nat.le_refl _, fun _ _ _ => rfl⟩
theorem Kp.of_below {F : Nat → Prop} {w w' : World} (h : Below w.heap.size w w') : Kp F w w' := ⟨h.os, h.tape, h.output, h.size, fun k hk _ => h.block k hk⟩
theorem Kp.trans {F G : Nat → Prop} {a b c : World} (h : Kp F a b) (k : Kp G b c) (hG : ∀ i, i < a.heap.size → G i → F i) : Kp F a c :=
  ⟨k.os.trans h.os, k.tape.trans h.tape, k.output.trans h.output, Nat.le_trans h.size k.size, fun i hi hf => (k.block i (Nat.lt_of_lt_of_le hi h.size) (fun g => hf (hG i hi g))).trans (h.block i hi hf)⟩
theorem Kp.mono {F G : Nat → Prop} {a b : World} (h : Kp F a b) (hG : ∀ i, i < a.heap.size → F i → G i) : Kp G a b :=
  ⟨h.os, h.tape, h.output, h.size, fun i hi hf => h.block i hi (fun f => hf (hG i hi f))⟩
theorem Kp.then_below {F : Nat → Prop} {a b c : World} (h : Kp F a b) (k : Below b.heap.size b c) : Kp F a c := h.trans (G := fun _ => False) (Kp.of_below k) (fun _ _ h => h.elim)
theorem Kp.below {F : Nat → Prop} {a b : World} (h : Kp F a b) {B : Nat} (hB : B ≤ a.heap.size) (hF : ∀ i, F i → B ≤ i) : Below B a b :=
  ⟨h.os, h.tape, h.output, h.size, fun k hk => h.block k (by omega) (fun f => by have := hF k f; omega)⟩
theorem Kp.cell {F : Nat → Prop} {a b : World} (h : Kp F a b) {p : Addr} (hp : p.block < a.heap.size) (hf : ¬ F p.block) : b.cell? p = a.cell? p := World.cell?_of_block (w := a) (h.block p.block hp hf)
theorem Kp.frozen {F : Nat → Prop} {a b : World} (h : Kp F a b) {p : Addr} (hp : p.block < a.heap.size) (hf : ¬ F p.block) : b.frozen? p = a.frozen? p := World.frozen?_of_block (w := a) (h.block p.block hp hf)
theorem Kp.setCell {F : Nat → Prop} {a b : World} (h : Kp F a b) {p : Addr} (hp : F p.block ∨ a.heap.size ≤ p.block) (u : Value) : Kp F a (b.setCell p u) := by
  have hs : (b.setCell p u).heap.size = b.heap.size := by simp
  refine ⟨h.os, h.tape, h.output, by rw [hs]; exact h.size, fun k hk hf => ?_⟩
  rw [Below.heap_setCell b p u k (fun e => ?_)]
  · exact h.block k hk hf
  · subst e
    rcases hp with hp | hp
    · exact hf hp
    · omega
theorem Kp.grown {F : Nat → Prop} {a b c : World} {r : Option Nat} (h : Kp F a b) (hg : b.grownBy c r) (hr : ∀ k, r = some k → F k ∨ a.heap.size ≤ k) : Kp F a c := by
  obtain ⟨g1, g2, g3, g4, g5⟩ := hg
  refine ⟨g1.trans h.os, g2.trans h.tape, g3.trans h.output, Nat.le_trans h.size g4, fun k hk hf => ?_⟩
  rw [g5 k (Nat.lt_of_lt_of_le hk h.size) (fun e => ?_)]
  · exact h.block k hk hf
  · rcases hr k (by first | exact e | exact e.symm) with h1 | h1
    · exact hf h1
    · omega

/-- A slice in memory that lies in the blocks of R. -/
structure SlR (w : World) (R : Nat → Prop) (sz : Nat) (A : Option Addr) (n c : Nat) (xs : List Value) : Prop where
  sl : Sl w w.heap.size sz A n c xs
  at_ : 0 < n → ∀ a, A = some a → R a.block
theorem SlR.keep {w w' : World} {R F : Nat → Prop} {sz n c : Nat} {A : Option Addr} {xs : List Value} (h : SlR w R sz A n c xs) (k : Kp F w w') (hRF : ∀ i, R i → ¬ F i) : SlR w' R sz A n c xs :=
  ⟨⟨h.sl.len, h.sl.cap, h.sl.max, h.sl.nil_, fun hn => by
    obtain ⟨b, off, e, hb, hc⟩ := h.sl.at_ hn
    exact ⟨b, off, e, Nat.lt_of_lt_of_le hb k.size, fun j u hu => (k.cell (p := ⟨b, off + j, none⟩) hb (hRF b (by have := h.at_ hn _ e; exact this))).trans (hc j u hu)⟩⟩, h.at_⟩
theorem SlR.mono {w : World} {R R' : Nat → Prop} {sz n c : Nat} {A : Option Addr} {xs : List Value} (h : SlR w R sz A n c xs) (hR : ∀ i, R i → R' i) : SlR w R' sz A n c xs := ⟨h.sl, fun hn a e => hR _ (h.at_ hn a e)⟩
theorem SlR.of_own {w : World} {base e sz n c : Nat} {A : Option Addr} {xs : List Value} (h : w.ownsRow base e sz (.slice A n c) n xs) {R : Nat → Prop} (hR : ∀ i, base ≤ i → i < w.heap.size → R i) : SlR w R sz A n c xs :=
  ⟨Sl.of_own h, fun _ a ea => by
    subst ea
    rcases h.2 with ⟨hv, _⟩ | ⟨g, cap, cur, hv, hg, hh, _⟩
    · cases hv
    · cases hv
      exact hR _ hg (Array.getElem?_eq_some_iff.1 hh).1⟩

/-- A map's elements read as themselves. -/
def MapR : Value → Option (DataW Value × List MemPlace) := fun v => some (.held v, [])
theorem keyLaw : Maps.Keyed Tryz.prog 9 := Maps.string_keyed Tryz.underlying9
theorem zeroAl (w : World) : (zeroValue 48).run Tryz.prog w = .ok (Al.zero.val none 0) w := by kernel_rfl
/-- Block mb is a map from strings to alerts: what f says of each key. -/
def MapAt (w : World) (mb n : Nat) (f : List UInt8 → Option Value) : Prop :=
  ∃ D : DataW Value, w.ownsMap Tryz.prog 9 MapR mb n D ∧ ∀ s : List UInt8, Maps.has D (.string s) = (f s).isSome ∧ ∀ v, f s = some v → D.atKey (.string s) (.held (Al.zero.val none 0)) = .held v
theorem MapAt.made (w : World) : MapAt (w.alloc (.map #[] 0)) w.heap.size 0 (fun _ => none) := by
  refine ⟨_, World.ownsMap_made w _ _ _, fun s => ⟨rfl, fun v h => by cases h⟩⟩
theorem MapAt.lt {w : World} {mb n : Nat} {f : List UInt8 → Option Value} (h : MapAt w mb n f) : mb < w.heap.size := by
  obtain ⟨D, h1, _⟩ := h
  exact h1.lt
theorem MapAt.keep {w w' : World} {mb n : Nat} {f : List UInt8 → Option Value} (h : MapAt w mb n f) {F : Nat → Prop} (k : Kp F w w') (hF : ¬ F mb) : MapAt w' mb n f := by
  have hlt := h.lt
  obtain ⟨D, ⟨es, clock, hb, r⟩, h2⟩ := h
  exact ⟨D, ⟨es, clock, (k.block mb hlt hF).trans hb, r⟩, h2⟩
theorem MapAt.look {w : World} {mb n : Nat} {f : List UInt8 → Option Value} (h : MapAt w mb n f) {s : ByteArray} (hs : s.size ≤ maxLen) :
    (Instr.lookup 100 (.map (some mb)) (.string s) true).run Tryz.prog w = .ok (.tuple #[(f s.data.toList).getD (Al.zero.val none 0), .bool (f s.data.toList).isSome]) w := by
  obtain ⟨D, h1, h2⟩ := h
  obtain ⟨hh, ha⟩ := h2 s.data.toList
  obtain ⟨v, ps, hrun, hv⟩ := h1.look_ok keyLaw Tryz.underlying100 (zeroAl w) (zd := .held (Al.zero.val none 0)) (zp := []) rfl (WideMaps.keyOf_string_mk Tryz.underlying9 hs)
  rw [hrun, hh]
  have hv' : DataW.held v = D.atKey (.string s.data.toList) (.held (Al.zero.val none 0)) := congrArg Prod.fst (Option.some.inj hv)
  cases hf : f s.data.toList with
  | none =>
    rw [hf] at hh
    rw [Maps.atKey_of_not_has hh] at hv'
    cases hv'
    rfl
  | some u =>
    rw [ha u hf] at hv'
    cases hv'
    rfl
theorem isKeyS (s : List UInt8) : WideAt.IsKeyLit (.string s) := by first | trivial | (simp [WideAt.IsKeyLit]; done)
theorem MapAt.put {w : World} {mb n : Nat} {f : List UInt8 → Option Value} (h : MapAt w mb n f) (hn : n < maxLen) {s : ByteArray} (hs : s.size ≤ maxLen) (v : Value) :
    ∃ w', (Instr.mapUpdate 100 (.map (some mb)) (.string s) v).run Tryz.prog w = .ok () w' ∧ MapAt w' mb (n + 1) (fun k => if k = s.data.toList then some v else f k) ∧ w.grownBy w' (some mb) := by
  obtain ⟨D, h1, h2⟩ := h
  obtain ⟨w', hrun, h3, h4⟩ := h1.update keyLaw Tryz.underlying100 hn (WideMaps.keyOf_string_mk Tryz.underlying9 hs) (val := v) (d := .held v) (ps := []) rfl
  refine ⟨w', hrun, ⟨_, h3, fun k => ?_⟩, h4⟩
  have hm := h1.isMap
  by_cases hk : k = s.data.toList
  · subst hk
    simp only [if_true]
    refine ⟨Maps.has_put_same hm (isKeyS _) _, fun u hu => ?_⟩
    cases hu
    exact Maps.atKey_put_same hm (isKeyS _) _ _
  · simp only [if_neg hk]
    have hne : (Lit.string k) ≠ .string s.data.toList := fun e => hk (by injection e)
    obtain ⟨hh, ha⟩ := h2 k
    refine ⟨by rw [Maps.has_put_other hne]; exact hh, fun u hu => ?_⟩
    rw [Maps.atKey_put_other hne]
    exact ha u hu

theorem wpList_mapUpdate_al {w : World} {ops : Array Oper} {rest : List Oper} {o : Oper} {a : Act} {Q : Exit → Act → World → Prop} (hg : o.guard = none) (m x v : Operand) (hop : o.op = Op.mapUpdate 100 m x v)
    (mb n : Nat) (f : List UInt8 → Option Value) (hmap : MapAt w mb n f) (hn : n < maxLen) (hm : a.eval m = .map (some mb)) (s : ByteArray) (hs : s.size ≤ maxLen) (hx : a.eval x = .string s) (u : Value) (hv : a.eval v = u)
    (hK : ∀ w', MapAt w' mb (n + 1) (fun k => if k = s.data.toList then some u else f k) → w.grownBy w' (some mb) → wpList Tryz.prog ops Q rest (a.put o.dst undef) w') : wpList Tryz.prog ops Q (o :: rest) a w := by
  refine wpList_plain hg fun K' hK' => ?_
  obtain ⟨w', hrun, r1, r2⟩ := hmap.put hn hs u
  unfold Oper.wp
  simp [execOp, hop, hm, hx, hv, hrun, Result.andThen]
  exact hK' _ _ (hK w' r1 r2)
end Go.Proofs.YtohfofecbdfkgaaGreatDoor
