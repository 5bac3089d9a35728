/-
  The walk of the helper that signs an alert by the first keys.
-/
import Derived.Test.YtohfofecbdfkgaaDoorLw
import Derived.Deep.DeepMust
namespace Go.Proofs.YtohfofecbdfkgaaDoor
open Go.RowKit Al

/-- The signatures by the first k keys. -/
def sgN (ks : List (Int × Int)) (ss : List Int) (d : Int) (k : Nat) : List (Int × Int) := (List.range k).map fun (i : Nat) => ((i : Int), pw d (ss.getD i 0) (ks.getD i (0, 0)).1)
theorem sgN_len (ks : List (Int × Int)) (ss : List Int) (d : Int) (k : Nat) : (sgN ks ss d k).length = k := by simp [sgN]
theorem sgN_succ {ks : List (Int × Int)} {ss : List Int} {d : Int} {k : Nat} (h : k < ks.length) (h' : k < ss.length) : sgN ks ss d (k + 1) = sgN ks ss d k ++ [((k : Int), pw d ss[k] ks[k].1)] := by
  unfold sgN
  rw [List.range_succ, List.map_append]
  simp [List.getD, h, h']
theorem keyCells_snoc (ks : List (Int × Int)) (k : Int × Int) : keyCells (ks ++ [k]) = keyCells ks ++ [.int .i64 k.1, .int .i64 k.2] := by simp [keyCells]
theorem infoSig : (Tryd.prog.info? 115).map (fun i => (i.zero, i.size, i.bytes)) = some (some (.agg #[.int .i64 0, .int .i64 0]), 2, 16) := by kernel_rfl
theorem Sign_is (m x s : Int) (a : Alr) (A : Option Addr) (c : Nat) (w : World) (h1 : plaus m x = true) (h2 : inB s 1 1073741824 = true) (hk : okA a = true) (h : AIn w a A c) (hr : Rdy w) :
    Calls Tryd.prog 25 #[.agg #[.int .i64 m, .int .i64 x], .int .i64 s, a.val A c] w fun e w' => e = .returned (.tuple #[.int .i64 (pw (digA a) s m), .int .i64 0]) ∧ Below w.heap.size w w' := by
  have := Sign_ m x s a A c w h hr
  rw [signE_ok h1 h2 hk] at this
  exact this

theorem two_one (x y : Int) : ∀ u ∈ (#[.int .i64 x, .int .i64 y] : Array Value).toList, u.oneCell' = true := by
  intro u hu
  simp at hu
  rcases hu with rfl | rfl <;> rfl
theorem own_base {w : World} {base e sz n g : Nat} {v : Value} {xs : List Value} (h : w.ownsRow base e sz v n xs) (hg : v.ownBlock = some g) : base ≤ g := by
  rcases h.2 with ⟨rfl, _⟩ | ⟨g', cap, cur, rfl, hb, _⟩
  · cases hg
  · cases hg; exact hb

@[reducible] def ntL (a : Alr) (A : Option Addr) (c : Nat) (S : Option Addr) (k sc : Nat) : List Value :=
  [.string a.ev, .int .i64 a.ver, .int .i64 a.tm, .int .i64 a.n, .int .i64 a.of, .int .i64 a.grid, .slice A a.cells.length c, .bool a.wd, .int .i64 a.before, .slice S k sc]
theorem lt10 {p : Nat → Prop} (h : p 0 ∧ p 1 ∧ p 2 ∧ p 3 ∧ p 4 ∧ p 5 ∧ p 6 ∧ p 7 ∧ p 8 ∧ p 9) : ∀ j, j < 10 → p j
  | 0, _ => h.1 | 1, _ => h.2.1 | 2, _ => h.2.2.1 | 3, _ => h.2.2.2.1 | 4, _ => h.2.2.2.2.1 | 5, _ => h.2.2.2.2.2.1 | 6, _ => h.2.2.2.2.2.2.1 | 7, _ => h.2.2.2.2.2.2.2.1 | 8, _ => h.2.2.2.2.2.2.2.2.1 | 9, _ => h.2.2.2.2.2.2.2.2.2
  | n + 10, h' => absurd h' (by omega)

/-- Where the notice lies while it is made: the block of the alert given, that of the notice. -/
structure SgSt (w w0 wr : World) (a : Alr) (A : Option Addr) (c : Nat) (ks : List (Int × Int)) (ss : List Int) (k : Nat) (S : Option Addr) (sc : Nat) : Prop where
  bel : Below (w.heap.size + 1 + 1) w0 wr
  n0 : wr.cell? ⟨w.heap.size + 1 + 1, 0, none⟩ = some (.string a.ev)
  n1 : wr.cell? ⟨w.heap.size + 1 + 1, 1, none⟩ = some (.int .i64 a.ver)
  n2 : wr.cell? ⟨w.heap.size + 1 + 1, 2, none⟩ = some (.int .i64 a.tm)
  n3 : wr.cell? ⟨w.heap.size + 1 + 1, 3, none⟩ = some (.int .i64 a.n)
  n4 : wr.cell? ⟨w.heap.size + 1 + 1, 4, none⟩ = some (.int .i64 a.of)
  n5 : wr.cell? ⟨w.heap.size + 1 + 1, 5, none⟩ = some (.int .i64 a.grid)
  n6 : wr.cell? ⟨w.heap.size + 1 + 1, 6, none⟩ = some (.slice A a.cells.length c)
  n7 : wr.cell? ⟨w.heap.size + 1 + 1, 7, none⟩ = some (.bool a.wd)
  n8 : wr.cell? ⟨w.heap.size + 1 + 1, 8, none⟩ = some (.int .i64 a.before)
  n9 : wr.cell? ⟨w.heap.size + 1 + 1, 9, none⟩ = some (.slice S k sc)
  fz : wr.frozen? ⟨w.heap.size + 1 + 1, 9, none⟩ = false
  own : wr.ownsRow (w.heap.size + 1 + 1 + 1) 115 2 (.slice S k sc) k (keyCells (sgN ks ss (digA a) k))
  size : w.heap.size + 1 + 1 + 1 ≤ wr.heap.size
def SgRel (w w0 wr : World) (a : Alr) (A : Option Addr) (c : Nat) (ks : List (Int × Int)) (ss : List Int) (i : Value) (m : Nat) : Prop := ∃ (k : Nat) (S : Option Addr) (sc : Nat), k ≤ m ∧ i = .int .i64 k ∧ SgSt w w0 wr a A c ks ss k S sc
/-- What it hands back: the notice; its signatures lie in memory of the call's own. -/
def SgT (a : Alr) (A : Option Addr) (c : Nat) (sg : List (Int × Int)) (w : World) (e : Ending) (w' : World) : Prop := ∃ S sc, e = .returned (.tuple #[(⟨a, sg⟩ : Ntc).val A c S sc, .bool true]) ∧ w'.ownsRow w.heap.size 115 2 (.slice S sg.length sc) sg.length (keyCells sg) ∧ Below w.heap.size w w'

set_option maxRecDepth 100000 in
set_option maxHeartbeats 2000000 in
theorem lawsigned_ (ks : List (Int × Int)) (K : Option Addr) (kc : Nat) (ss : List Int) (Z : Option Addr) (zc : Nat) (a : Alr) (A : Option Addr) (c : Nat) (m : Nat) (w : World)
    (hk : Sl w w.heap.size 2 K ks.length kc (keyCells ks)) (hs : Sl w w.heap.size 1 Z ss.length zc (ints ss)) (ha : AIn w a A c) (hr : Rdy w) (hok : okA a = true)
    (hpl : ∀ i (h : i < ks.length), plaus ks[i].1 ks[i].2 = true) (hsc : ∀ i (h : i < ss.length), inB ss[i] 1 1073741824 = true) (hm : m ≤ ks.length) (hks : ks.length ≤ ss.length) (hb : ks.length ≤ 1048576) :
    Calls Tryd.prog 51 #[.slice K ks.length kc, .slice Z ss.length zc, a.val A c, .int .i64 m] w (SgT a A c (sgN ks ss (digA a) m) w) := by
  obtain ⟨i0, hi, hz0, hz1, hz2⟩ := info_parts infoSig
  have HK := Lib.hid hk
  have HS := Lib.hid hs
  have HA := Lib.hid ha
  have HR := Lib.hid hr
  have HO := Lib.hid hok
  have HP := Lib.hid hpl
  have HC := Lib.hid hsc
  have hlz : ss.length ≤ maxLen := Nat.le_trans hs.cap hs.max
  unfold maxLen at hlz
  clear hk hs ha hr hok hpl hsc
  go_enter Tryd.func51, Tryd.ntmps51
  go_wp2_with fail
  go_loopw [11] (fun i wr => SgRel w ((w.alloc (.cells (a.val A c).cells 29)).alloc (.cells #[.string ⟨#[]⟩, .int .i64 0, .int .i64 0, .int .i64 0, .int .i64 0, .int .i64 0, .slice none 0 0, .bool false, .int .i64 0, .slice none 0 0] 32)) wr a A c ks ss i m) (fun i _ => m - (intOf i).toNat)
  case atStart =>
    refine ⟨0, none, 0, Nat.zero_le _, rfl, ⟨(Below.refl _ _).alloc (by simp) _, ?_, ?_, ?_, ?_, ?_, ?_, ?_, ?_, ?_, ?_, ?_, World.ownsRow_nil _ _ _ _, by simp⟩⟩ <;> simp [go_sem]
  case round =>
    obtain ⟨k, S, sc, hkm, rfl, hst⟩ := hrel
    have hB := hst.bel
    have hn0 := hst.n0
    have hn1 := hst.n1
    have hn2 := hst.n2
    have hn3 := hst.n3
    have hn4 := hst.n4
    have hn5 := hst.n5
    have hn6 := hst.n6
    have hn7 := hst.n7
    have hn8 := hst.n8
    have hn9 := hst.n9
    have hf9 := hst.fz
    have hsz := hst.size
    have HST := Lib.hid hst
    obtain ⟨hcw, hfw⟩ := bcell hB
    have HB := Lib.hid hB
    have hWB : Hid (Below w.heap.size w wr) := ((show Below w.heap.size w _ from by (repeat (first | exact Below.refl _ _ | assumption | refine below_drewN ?_ _ | refine Below.drew ?_ | refine Below.setCell ?_ (by first | omega | (simp; done) | (simp; omega)) _ | refine Below.alloc ?_ (by first | omega | (simp; done) | (simp; omega)) _))).trans (hB.mono (by omega)))
    clear hB hst
    by_cases hlt : k < m
    · have hkl : k < ks.length := by omega
      have hzl : k < ss.length := by omega
      obtain ⟨kb, ko, rfl, hkb, hk1, hk2⟩ := (HK.out.below hWB.out).key_at hkl
      obtain ⟨zb, zo, rfl, hzb, hzc⟩ := (HS.out.below hWB.out).int_at hzl hzl
      have hlt' : (k : Int) < (m : Int) := by omega
      have hkl' : (k : Int) < (ks.length : Int) := by omega
      have hzl' : (k : Int) < (ss.length : Int) := by omega
      have hk0 : (0 : Int) ≤ (k : Int) := by omega
      have hz7 : w.heap.size < wr.heap.size := by omega
      have hz8 : w.heap.size + 1 < wr.heap.size := by omega
      have hz9 : w.heap.size + 1 + 1 < wr.heap.size := by omega
      have hkb2 : kb < wr.heap.size := by omega
      have hzb2 : zb < wr.heap.size := by omega
      have P1 := Lib.hid (HP.out k hkl)
      have P2 := Lib.hid (HC.out k hzl)
      go_wp2_with fail
      refine wp_region_bw2 (by kernel_rfl) (by kernel_rfl) (fun hbwc => ?_)
      repeat (go_big_quiet_step ((go_at_call 25; exact bwCall (Sign_is _ _ _ a A c _ P1.out P2.out HO.out (AIn.below (HA.out.below hWB.out) (BW.below _)) (Rdy.below (HR.out.below hWB.out) (BW.below _))))))
      refine wpQuiet_nil ?_
      clear hbwc
      intro w3 hb
      obtain ⟨hcw3, hfw3⟩ := bcell hb
      have hz10 := hb.size
      have HB3 := Lib.hid hb
      clear hb
      have HOW := Lib.hid (own_below (own_below HST.out.own (Nat.le_refl _) HB3.out) (Nat.le_refl _) ((Below.refl _ _).alloc (Nat.le_refl _) (.cells #[.int .i64 k, .int .i64 (pw (digA a) ss[k] ks[k].1)] 115)))
      have HSL := Lib.hid (Sl.of_own (World.ownsRow_lit (base := 0) (e := 115) (size := 2) w3 #[.int .i64 k, .int .i64 (pw (digA a) ss[k] ks[k].1)] 1 (Nat.zero_le _) (by decide) rfl))
      go_wp2_with
        (at_builtin; go_must (refine wpList_append_sl rfl _ _ 30 rfl (w.heap.size + 1 + 1 + 1) 115 i0 (.agg #[.int .i64 0, .int .i64 0]) 2 16 Tryd.underlying30 hi hz0 hz1 hz2 rfl (by decide) _ k _ rfl HOW.out _ _ 1 1 _ rfl HSL.out (two_one _ _) (by unfold maxLen; omega) (by omega) (by simp; omega) ?_); intro v' w4 hown hgrow _
         obtain ⟨S', sc', rfl⟩ := own_form hown
         have hg4 := (Below.refl (w.heap.size + 1 + 1 + 1) _).grown hgrow (by simp; omega) (fun g hg => own_base HOW.out hg)
         obtain ⟨hcw4, hfw4⟩ := bcell hg4
         have HG4 := Lib.hid hg4
         have HOWN := Lib.hid hown
         have hz11 := hg4.size
         simp at hz11
         have hz12 : w.heap.size + 1 + 1 < w3.heap.size := by omega
         have hz13 : w.heap.size + 1 + 1 < w4.heap.size := by omega
         clear hgrow hg4 hown)
      go_roundw
      case rel =>
        have hsn := sgN_succ (d := digA a) hkl hzl
        refine ⟨k + 1, S', sc', by omega, by go_num, ⟨?_, ?_, ?_, ?_, ?_, ?_, ?_, ?_, ?_, ?_, ?_, ?_, ?_, ?_⟩⟩
        case refine_1 => exact (((HB.out.trans (HB3.out.mono (by omega))).alloc (by omega) _).trans (HG4.out.mono (by omega))).setCell (by simp) _
        case refine_13 =>
          rw [hsn, keyCells_snoc]
          exact ownsRow_setCell_below HOWN.out (by simp) _
        case refine_14 => simp; omega
        all_goals simp [go_sem, hcw4, hfw4, hcw3, hfw3, hn0, hn1, hn2, hn3, hn4, hn5, hn6, hn7, hn8, hn9, hf9, hz9, hz12, hz13]
      case measure => simp [intOf]; omega
    · obtain rfl : k = m := by omega
      go_wp2_with fail
      have hz8 : w.heap.size + 1 < wr.heap.size := by omega
      refine finCells (w := wr) (w.heap.size + 1) (ntL a A c S k sc) (.tuple #[.agg (ntL a A c S k sc).toArray, .bool true]) rfl ?_ ?_ (show SgT a A c (sgN ks ss (digA a) k) w _ _ from ⟨S, sc, ?_, ?_, ?_⟩)
      · intro W hW
        have r0 := hW 0 (by simp)
        have r1 := hW 1 (by simp)
        have r2 := hW 2 (by simp)
        have r3 := hW 3 (by simp)
        have r4 := hW 4 (by simp)
        have r5 := hW 5 (by simp)
        have r6 := hW 6 (by simp)
        have r7 := hW 7 (by simp)
        have r8 := hW 8 (by simp)
        have r9 := hW 9 (by simp)
        clear hW
        simp only [List.getElem_cons_zero, List.getElem_cons_succ] at r0 r1 r2 r3 r4 r5 r6 r7 r8 r9
        simp [results, Tryd.results51, go_sem, r0, r1, r2, r3, r4, r5, r6, r7, r8, r9]
      · refine lt10 ?_
        simp [go_sem, hcw]
      · show _ = Ending.returned (.tuple #[.agg #[.string a.ev, .int .i64 a.ver, .int .i64 a.tm, .int .i64 a.n, .int .i64 a.of, .int .i64 a.grid, .slice A a.cells.length c, .bool a.wd, .int .i64 a.before, .slice S (sgN ks ss (digA a) k).length sc], .bool true])
        rw [sgN_len]
      · rw [sgN_len]
        exact own_more (base := w.heap.size + 1 + 1 + 1) (own_setCells (by omega) _ _ _ HST.out.own) (by omega)
      · exact below_setCells (by omega) _ _ _ _ hWB.out
end Go.Proofs.YtohfofecbdfkgaaDoor
