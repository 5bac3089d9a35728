/-
  The walk of sameAlerts, of lists that are equal.
-/
import Derived.Test.YtohfofecbdfkgaaDoorHq
import Derived.Test.YtohfofecbdfkgaaDoorSi
import Derived.Test.YtohfofecbdfkgaaDoorWk
namespace Go.Proofs.YtohfofecbdfkgaaDoor
open Go.RowKit Al

def SaRel (n : Nat) (w : World) (i : Value) (wr : World) : Prop := ∃ k : Nat, k ≤ n ∧ i = .int .i64 k ∧ Below w.heap.size w wr
set_option maxRecDepth 100000 in
set_option maxHeartbeats 4000000 in
theorem sameAlerts_ (L M : List Ia) (P : Option Addr) (pc : Nat) (Q : Option Addr) (qc n m : Nat) (w : World) (hn : n = L.length) (hm : m = M.length) (hP : Sl w w.heap.size 9 P L.length pc (iaCells L)) (hQ : Sl w w.heap.size 9 Q M.length qc (iaCells M))
    (hL : ∀ x ∈ L, AIn w x.a x.A x.c) (hM : ∀ x ∈ M, AIn w x.a x.A x.c) (he : L.map (·.a) = M.map (·.a)) :
    Calls Tryd.prog 33 #[.slice P n pc, .slice Q m qc] w fun e w' => e = .returned (.bool true) ∧ Below w.heap.size w w' := by
  subst hn hm
  have hlen : L.length = M.length := by have := congrArg List.length he; simpa using this
  have t1 : ((L.length : Int) != (M.length : Int)) = false := by simp [hlen]
  have hb1 : L.length ≤ maxLen := Nat.le_trans hP.cap hP.max
  unfold maxLen at hb1
  have HP := Lib.hid hP
  have HQ := Lib.hid hQ
  have HL := Lib.hid hL
  have HM := Lib.hid hM
  have HE := Lib.hid he
  have hlm : L.length ≤ M.length := by omega
  clear hP hQ hL hM he hlen
  go_enter Tryd.func33, Tryd.ntmps33
  go_wp2_with fail
  go_loopw [5] (fun i wr => SaRel L.length w i wr) (fun i _ => L.length - (intOf i).toNat)
  case atStart => exact ⟨0, Nat.zero_le _, rfl, Below.refl _ _⟩
  case round =>
    obtain ⟨k, hk, rfl, hB⟩ := hrel
    have hsz := hB.size
    have HB := Lib.hid hB
    clear hB
    by_cases hlt : k < L.length
    · have hlt2 : k < M.length := by omega
      have i0 : (0 : Int) ≤ (k : Int) := by omega
      have i1 : (k : Int) < (L.length : Int) := by omega
      have i2 : (k : Int) < (M.length : Int) := by omega
      obtain ⟨b1, o1, rfl, hb1, y0, y1, y2, y3, y4, y5, y6, y7, y8⟩ := (HP.out.below HB.out).al_at hlt
      obtain ⟨b2, o2, rfl, hb2, z0, z1, z2, z3, z4, z5, z6, z7, z8⟩ := (HQ.out.below HB.out).al_at hlt2
      have hb3 : b1 < wr.heap.size := by omega
      have hb4 : b2 < wr.heap.size := by omega
      have HA1 := Lib.hid ((HL.out L[k] (List.getElem_mem hlt)).below HB.out)
      have HA2 := Lib.hid ((HM.out M[k] (List.getElem_mem hlt2)).below HB.out)
      have HV : Hid (sameB L[k].a M[k].a = true) := by
        have hek : L[k].a = M[k].a := by
          have := congrArg (fun l => l[k]?) HE.out
          simpa [hlt, hlt2] using this
        show _ = _
        rw [hek]
        exact sameB_refl _
      obtain ⟨x, hx⟩ : ∃ x, x = L[k] := ⟨_, rfl⟩
      obtain ⟨y, hy⟩ : ∃ y, y = M[k] := ⟨_, rfl⟩
      rw [← hx] at y0 y1 y2 y3 y4 y5 y6 y7 y8 HA1 HV
      rw [← hy] at z0 z1 z2 z3 z4 z5 z6 z7 z8 HA2 HV
      clear hx hy
      go_wp2_with fail
      refine wp_region_bw2 (by kernel_rfl) (by kernel_rfl) (fun hbwc => ?_)
      repeat (go_big_quiet_step ((go_at_call 16; exact bwCall (same_is x.a y.a x.A x.c y.A y.c _ (AIn.below (AIn.below HA1.out (by (repeat (first | exact Below.refl _ _ | assumption | refine below_drewN ?_ _ | refine Below.drew ?_ | refine Below.setCell ?_ (by first | omega | (simp; done) | (simp; omega)) _ | refine Below.alloc ?_ (by first | omega | (simp; done) | (simp; omega)) _)))) (BW.below _)) (AIn.below (AIn.below HA2.out (by (repeat (first | exact Below.refl _ _ | assumption | refine below_drewN ?_ _ | refine Below.drew ?_ | refine Below.setCell ?_ (by first | omega | (simp; done) | (simp; omega)) _ | refine Below.alloc ?_ (by first | omega | (simp; done) | (simp; omega)) _)))) (BW.below _)) true HV.out))))
      refine wpQuiet_nil ?_
      clear hbwc
      intro w3 hb
      have HB3 := Lib.hid (HB.out.trans ((show Below w.heap.size wr _ from (by (repeat (first | exact Below.refl _ _ | assumption | refine below_drewN ?_ _ | refine Below.drew ?_ | refine Below.setCell ?_ (by first | omega | (simp; done) | (simp; omega)) _ | refine Below.alloc ?_ (by first | omega | (simp; done) | (simp; omega)) _)))).trans (hb.mono (by first | omega | (simp; done) | (simp; omega)))))
      clear hb
      go_wp2_with fail
      go_roundw
      case rel => exact ⟨k + 1, by omega, by go_num, HB3.out⟩
      case measure => simp [intOf]; omega
    · obtain rfl : k = L.length := by omega
      go_wp2_with fail
      go_ret
      exact ⟨rfl, HB.out⟩
end Go.Proofs.YtohfofecbdfkgaaDoor

/-
  The walk of Force, of the program.
-/
namespace Go.Proofs.YtohfofecbdfkgaaDoor
open Go.RowKit Al
attribute [local go_sem ↓] Go.wp_at_zero Go.wp_at_succ

/-- What Force returns. -/
def forceR (ns : List Ntc) (s : List UInt8) : Alr × Int := match lastOf ns s with
  | none => (Al.zero, 4)
  | some x => if x.wd then (Al.zero, 107) else (x, 0)
theorem zero4 (w W : World) {k : Int} (h : Below w.heap.size w W) : OwnT w.heap.size Al.zero k w (.returned (.tuple #[Al.zero.val none 0, .int .i64 k])) W := ⟨none, 0, rfl, zero_row _ _, h⟩

set_option maxRecDepth 100000 in
set_option maxHeartbeats 4000000 in
theorem force_n (b mb : Nat) (ev : ByteArray) (w : World) (c3 : w.cell? ⟨b, 3, none⟩ = some (.map (some mb))) (hlt : b < w.heap.size)
    (hlk : ∀ W, Below w.heap.size w W → (Instr.lookup 78 (.map (some mb)) (.string ev) true).run Tryd.prog W = .ok (.tuple #[(Al.zero).val none 0, .bool false]) W) :
    Calls Tryd.prog 35 #[.pointer (some ⟨b, 0, none⟩), .string ev] w (OwnT w.heap.size Al.zero 4 w) := by
  have HL := Lib.hid hlk
  have hlt2 : b < w.heap.size + 1 := by omega
  have hl1 : (Instr.lookup 78 (.map (some mb)) (.string ev) true).run Tryd.prog (w.alloc (.cells #[.string ⟨#[]⟩, .int .i64 0, .int .i64 0, .int .i64 0, .int .i64 0, .int .i64 0, .slice none 0 0, .bool false, .int .i64 0] 29)) = .ok (.tuple #[(Al.zero).val none 0, .bool false]) (w.alloc (.cells #[.string ⟨#[]⟩, .int .i64 0, .int .i64 0, .int .i64 0, .int .i64 0, .int .i64 0, .slice none 0 0, .bool false, .int .i64 0] 29)) := hlk _ (by (repeat (first | exact Below.refl _ _ | assumption | refine below_drewN ?_ _ | refine Below.drew ?_ | refine Below.setCell ?_ (by first | omega | (simp; done) | (simp; omega)) _ | refine Below.alloc ?_ (by first | omega | (simp; done) | (simp; omega)) _)))
  clear hlk
  have hz4 : w.heap.size < w.heap.size + 1 := by omega
  have hz5 : w.heap.size < w.heap.size + 1 + 1 := by omega
  have hz6 : w.heap.size + 1 < w.heap.size + 1 + 1 := by omega
  go_enter Tryd.func35, Tryd.ntmps35
  go_wp2_with (go_at_call 70; refine (none_ b mb _ (by simp [go_sem, hlt, c3])).mono ?_; rintro e w' ⟨rfl, rfl⟩)
  exact bodyPost_ret (v := .tuple #[Al.zero.val none 0, .int .i64 4]) (by simp [results, Tryd.results35, go_sem, Al.zero]) rfl (zero4 _ _ (by (repeat (first | exact Below.refl _ _ | assumption | refine below_drewN ?_ _ | refine Below.drew ?_ | refine Below.setCell ?_ (by first | omega | (simp; done) | (simp; omega)) _ | refine Below.alloc ?_ (by first | omega | (simp; done) | (simp; omega)) _))))

set_option maxRecDepth 100000 in
set_option maxHeartbeats 4000000 in
theorem force_w (b mb : Nat) (ev : ByteArray) (x : Alr) (XA : Option Addr) (xc : Nat) (w : World) (c3 : w.cell? ⟨b, 3, none⟩ = some (.map (some mb))) (hlt : b < w.heap.size)
    (hlk : ∀ W, Below w.heap.size w W → (Instr.lookup 78 (.map (some mb)) (.string ev) true).run Tryd.prog W = .ok (.tuple #[(x).val XA xc, .bool true]) W) (hw : x.wd = true) :
    Calls Tryd.prog 35 #[.pointer (some ⟨b, 0, none⟩), .string ev] w (OwnT w.heap.size Al.zero 107 w) := by
  have HL := Lib.hid hlk
  have hlt2 : b < w.heap.size + 1 := by omega
  have hl1 : (Instr.lookup 78 (.map (some mb)) (.string ev) true).run Tryd.prog (w.alloc (.cells #[.string ⟨#[]⟩, .int .i64 0, .int .i64 0, .int .i64 0, .int .i64 0, .int .i64 0, .slice none 0 0, .bool false, .int .i64 0] 29)) = .ok (.tuple #[(x).val XA xc, .bool true]) (w.alloc (.cells #[.string ⟨#[]⟩, .int .i64 0, .int .i64 0, .int .i64 0, .int .i64 0, .int .i64 0, .slice none 0 0, .bool false, .int .i64 0] 29)) := hlk _ (by (repeat (first | exact Below.refl _ _ | assumption | refine below_drewN ?_ _ | refine Below.drew ?_ | refine Below.setCell ?_ (by first | omega | (simp; done) | (simp; omega)) _ | refine Below.alloc ?_ (by first | omega | (simp; done) | (simp; omega)) _)))
  clear hlk
  have hz4 : w.heap.size < w.heap.size + 1 := by omega
  have hz5 : w.heap.size < w.heap.size + 1 + 1 := by omega
  have hz6 : w.heap.size + 1 < w.heap.size + 1 + 1 := by omega
  go_enter Tryd.func35, Tryd.ntmps35
  go_wp2_with (go_at_call 70; refine (none_ b mb _ (by simp [go_sem, hlt, c3])).mono ?_; rintro e w' ⟨rfl, rfl⟩)
  exact bodyPost_ret (v := .tuple #[Al.zero.val none 0, .int .i64 107]) (by simp [results, Tryd.results35, go_sem, Al.zero]) rfl (zero4 _ _ (by (repeat (first | exact Below.refl _ _ | assumption | refine below_drewN ?_ _ | refine Below.drew ?_ | refine Below.setCell ?_ (by first | omega | (simp; done) | (simp; omega)) _ | refine Below.alloc ?_ (by first | omega | (simp; done) | (simp; omega)) _))))

set_option maxRecDepth 100000 in
set_option maxHeartbeats 4000000 in
theorem force_y (b mb : Nat) (ev : ByteArray) (x : Alr) (XA : Option Addr) (xc : Nat) (w : World) (c3 : w.cell? ⟨b, 3, none⟩ = some (.map (some mb))) (hlt : b < w.heap.size)
    (hlk : ∀ W, Below w.heap.size w W → (Instr.lookup 78 (.map (some mb)) (.string ev) true).run Tryd.prog W = .ok (.tuple #[(x).val XA xc, .bool true]) W) (hw : x.wd = false) (hin : AIn w x XA xc) (hb8 : x.cells.length * 8 ≤ 140737488355328) :
    Calls Tryd.prog 35 #[.pointer (some ⟨b, 0, none⟩), .string ev] w (OwnT w.heap.size x 0 w) := by
  obtain ⟨xe, xv, xt, xn, xo, xg, xcs, xw, xb⟩ := x
  have hw' : xw = false := hw
  clear hw
  subst hw'
  have HL := Lib.hid hlk
  have hlt2 : b < w.heap.size + 1 := by omega
  have hl1 : (Instr.lookup 78 (.map (some mb)) (.string ev) true).run Tryd.prog (w.alloc (.cells #[.string ⟨#[]⟩, .int .i64 0, .int .i64 0, .int .i64 0, .int .i64 0, .int .i64 0, .slice none 0 0, .bool false, .int .i64 0] 29)) = .ok (.tuple #[((⟨xe, xv, xt, xn, xo, xg, xcs, false, xb⟩ : Alr)).val XA xc, .bool true]) (w.alloc (.cells #[.string ⟨#[]⟩, .int .i64 0, .int .i64 0, .int .i64 0, .int .i64 0, .int .i64 0, .slice none 0 0, .bool false, .int .i64 0] 29)) := hlk _ (by (repeat (first | exact Below.refl _ _ | assumption | refine below_drewN ?_ _ | refine Below.drew ?_ | refine Below.setCell ?_ (by first | omega | (simp; done) | (simp; omega)) _ | refine Below.alloc ?_ (by first | omega | (simp; done) | (simp; omega)) _)))
  clear hlk
  have hz4 : w.heap.size < w.heap.size + 1 := by omega
  have hz5 : w.heap.size < w.heap.size + 1 + 1 := by omega
  have hz6 : w.heap.size + 1 < w.heap.size + 1 + 1 := by omega
  go_enter Tryd.func35, Tryd.ntmps35
  go_wp2_with (go_at_call 70; refine (none_ b mb _ (by simp [go_sem, hlt, c3])).mono ?_; rintro e w' ⟨rfl, rfl⟩)
  refine (copied_ (⟨xe, xv, xt, xn, xo, xg, xcs, false, xb⟩ : Alr) XA xc _ (hin.below (by (repeat (first | exact Below.refl _ _ | assumption | refine below_drewN ?_ _ | refine Below.drew ?_ | refine Below.setCell ?_ (by first | omega | (simp; done) | (simp; omega)) _ | refine Below.alloc ?_ (by first | omega | (simp; done) | (simp; omega)) _)))) hb8).mono ?_
  rintro e w2 ⟨A', c', rfl, hown, hbw⟩
  obtain ⟨hcw2, hfw2⟩ := bcell hbw
  have HB := Lib.hid ((show Below w.heap.size w _ from by (repeat (first | exact Below.refl _ _ | assumption | refine below_drewN ?_ _ | refine Below.drew ?_ | refine Below.setCell ?_ (by first | omega | (simp; done) | (simp; omega)) _ | refine Below.alloc ?_ (by first | omega | (simp; done) | (simp; omega)) _))).trans (hbw.mono (by first | omega | (simp; done) | (simp; omega))))
  have HO := Lib.hid hown
  have hz2 := hbw.size
  simp at hz2
  clear hbw hown
  have hz7 : w.heap.size < w2.heap.size := by omega
  go_wp2_with fail
  refine finCells (w := w2) (w.heap.size) ((⟨xe, xv, xt, xn, xo, xg, xcs, false, xb⟩ : Alr).lst A' c') (.tuple #[(⟨xe, xv, xt, xn, xo, xg, xcs, false, xb⟩ : Alr).val A' c', .int .i64 0]) rfl ?_ ?_ (show OwnT w.heap.size (⟨xe, xv, xt, xn, xo, xg, xcs, false, xb⟩ : Alr) 0 w _ _ from ⟨A', c', rfl, ?_, ?_⟩)
  · intro W hW
    have r0 := hW 0 (by simp)
    have r1 := hW 1 (by simp)
    have r2 := hW 2 (by simp)
    have r3 := hW 3 (by simp)
    have r4 := hW 4 (by simp)
    have r5 := hW 5 (by simp)
    have r6 := hW 6 (by simp)
    have r7 := hW 7 (by simp)
    have r8 := hW 8 (by simp)
    clear hW
    simp only [List.getElem_cons_zero, List.getElem_cons_succ] at r0 r1 r2 r3 r4 r5 r6 r7 r8
    simp [results, Tryd.results35, go_sem, r0, r1, r2, r3, r4, r5, r6, r7, r8]
  · refine lt9 ?_
    simp [go_sem, hcw2]
  · refine own_more (base := w.heap.size + 1 + 1) (own_setCells ?_ _ _ _ ?_) ?_
    · omega
    · have := HO.out
      simp at this
      exact this
    · omega
  · exact below_setCells (by omega) _ _ _ _ HB.out

theorem Force_ (S : Nat → Prop) (b : Nat) (ks : List (Int × Int)) (q : Int) (ns : List Ntc) (ev : ByteArray) (w : World) (x : Alr) (k : Int) (hv : forceR ns ev.data.toList = (x, k)) (hs : ev.size ≤ maxLen) (h : Bd w S b ks q ns) :
    Calls Tryd.prog 35 #[.pointer (some ⟨b, 0, none⟩), .string ev] w (OwnT w.heap.size x k w) := by
  obtain ⟨R, K, kc, L, N, nc, mb, G, h, rfl, _⟩ := h
  have hl : ∀ W, Below w.heap.size w W → _ := fun W hb => (h.map.keep (F := fun _ => False) (Kp.of_below hb) (fun f => f)).look hs
  have hg := h.gl ev.data.toList
  unfold forceR at hv
  rw [← hg] at hv
  cases hG : G ev.data.toList with
  | none =>
    rw [hG] at hv
    cases hv
    refine force_n b mb ev w h.c3 h.lt.1 fun W hb => ?_
    have := hl W hb
    rw [hG] at this
    exact this
  | some y =>
    obtain ⟨y, YA, yc⟩ := y
    have hy := h.gs _ _ hG
    rw [hG] at hv
    have hv' : (if y.wd then (Al.zero, 107) else (y, 0)) = (x, k) := hv
    have hl' : ∀ W, Below w.heap.size w W → (Instr.lookup 78 (.map (some mb)) (.string ev) true).run Tryd.prog W = .ok (.tuple #[y.val YA yc, .bool true]) W := fun W hb => by
      have := hl W hb
      rw [hG] at this
      exact this
    cases hw : y.wd with
    | true =>
      rw [hw] at hv'
      cases hv'
      exact force_w b mb ev y YA yc w h.c3 h.lt.1 hl' hw
    | false =>
      rw [hw] at hv'
      cases hv'
      exact force_y b mb ev _ YA yc w h.c3 h.lt.1 hl' hw ⟨okA_ev hy.1, hy.2.sl⟩ (okA_short hy.1)
set_option maxRecDepth 100000 in
theorem force_zero (b : Nat) (ev : ByteArray) (w : World) (c3 : w.cell? ⟨b, 3, none⟩ = some (.map none)) (hlt : b < w.heap.size) :
    Calls Tryd.prog 35 #[.pointer (some ⟨b, 0, none⟩), .string ev] w (OwnT w.heap.size Al.zero 1 w) := by
  go_enter Tryd.func35, Tryd.ntmps35
  go_wp2_with (go_at_call 70; refine (none_zero b _ (by simp [go_sem, hlt, c3])).mono ?_; rintro e w' ⟨rfl, rfl⟩)
  exact bodyPost_ret (v := .tuple #[Al.zero.val none 0, .int .i64 1]) (by simp [results, Tryd.results35, go_sem, Al.zero]) rfl (zero4 _ _ (by (repeat (first | exact Below.refl _ _ | assumption | refine below_drewN ?_ _ | refine Below.drew ?_ | refine Below.setCell ?_ (by first | omega | (simp; done) | (simp; omega)) _ | refine Below.alloc ?_ (by first | omega | (simp; done) | (simp; omega)) _))))
end Go.Proofs.YtohfofecbdfkgaaDoor

/-
  Lists of alerts in memory, boards between calls: what the laws on boards carry.
-/
namespace Go.Proofs.YtohfofecbdfkgaaDoor
open Go.RowKit Al

/-- A list of alerts that lies in blocks from lo on. -/
structure AsIn (w : World) (lo : Nat) (L : List Ia) (P : Option Addr) (pc : Nat) : Prop where
  row : w.ownsRow lo 29 9 (.slice P L.length pc) L.length (iaCells L)
  its : ∀ x ∈ L, SlR w (fun i => lo ≤ i) 1 x.A x.a.cells.length x.c (ints x.a.cells)
  ok : ∀ x ∈ L, okA x.a = true
theorem AsIn.keep {w w' : World} {lo : Nat} {L : List Ia} {P : Option Addr} {pc : Nat} {F : Nat → Prop} (h : AsIn w lo L P pc) (k : Kp F w w') (hF : ∀ i, lo ≤ i → ¬ F i) : AsIn w' lo L P pc :=
  ⟨own_keep h.row k (fun g hg f => hF g (own_lt h.row hg).1 f), fun x hx => (h.its x hx).keep k hF, h.ok⟩
theorem AsIn.below {w w' : World} {lo : Nat} {L : List Ia} {P : Option Addr} {pc : Nat} (h : AsIn w lo L P pc) (hb : Below w.heap.size w w') : AsIn w' lo L P pc := h.keep (F := fun _ => False) (Kp.of_below hb) (fun _ _ f => f)
theorem AsIn.sl {w : World} {lo : Nat} {L : List Ia} {P : Option Addr} {pc : Nat} (h : AsIn w lo L P pc) : Sl w w.heap.size 9 P L.length pc (iaCells L) := Sl.of_own h.row
theorem AsIn.al {w : World} {lo : Nat} {L : List Ia} {P : Option Addr} {pc : Nat} (h : AsIn w lo L P pc) {x : Ia} (hx : x ∈ L) : AIn w x.a x.A x.c := ⟨okA_ev (h.ok x hx), (h.its x hx).sl⟩
theorem AsIn.cap {w : World} {lo : Nat} {L : List Ia} {P : Option Addr} {pc : Nat} (h : AsIn w lo L P pc) : L.length ≤ pc := h.sl.cap
theorem AsIn.slTake {w : World} {lo : Nat} {L : List Ia} {P : Option Addr} {pc : Nat} (h : AsIn w lo L P pc) (m : Nat) (hm : m ≤ L.length) : Sl w w.heap.size 9 P (L.take m).length pc (iaCells (L.take m)) := by
  rw [iaCells_take, List.length_take, Nat.min_eq_left hm]
  exact h.sl.cut hm
theorem hist_few (ns : List Ntc) (s : List UInt8) : (hist ns s).length ≤ ns.length := by
  unfold hist
  exact Nat.le_trans (List.length_filter_le _ _) (by simp)
theorem Bd.few {w : World} {S : Nat → Prop} {b : Nat} {ks : List (Int × Int)} {q : Int} {ns : List Ntc} (h : Bd w S b ks q ns) : ns.length ≤ 256 := by
  obtain ⟨R, K, kc, L, N, nc, mb, G, h1, rfl, _⟩ := h
  rw [List.length_map]
  exact h1.max
theorem Bd.lt {w : World} {S : Nat → Prop} {b : Nat} {ks : List (Int × Int)} {q : Int} {ns : List Ntc} (h : Bd w S b ks q ns) : b < w.heap.size := by
  obtain ⟨R, K, kc, L, N, nc, mb, G, h1, rfl, _⟩ := h
  exact h1.lt.1
/-- The blocks of a board lie in the world. -/
theorem Bd.cut {w : World} {S : Nat → Prop} {b : Nat} {ks : List (Int × Int)} {q : Int} {ns : List Ntc} (h : Bd w S b ks q ns) : Bd w (fun i => S i ∧ i < w.heap.size) b ks q ns := by
  obtain ⟨R, K, kc, L, N, nc, mb, G, h1, h2, h3⟩ := h
  refine ⟨R, K, kc, L, N, nc, mb, G, h1, h2, fun i hi => ⟨h3 i hi, ?_⟩⟩
  rcases hi with hi | rfl | rfl | ⟨a, ha, rfl⟩
  · exact h1.rl i hi
  · exact h1.lt.1
  · exact h1.lt.2
  · exact (own_lt h1.row (g := a.block) (by rw [ha]; rfl)).2
theorem Bd.below {w w' : World} {S : Nat → Prop} {b : Nat} {ks : List (Int × Int)} {q : Int} {ns : List Ntc} (h : Bd w S b ks q ns) (hb : Below w.heap.size w w') : Bd w' S b ks q ns := h.keep (F := fun _ => False) (Kp.of_below hb) (fun _ _ f => f)

/-- Alerts handed back, as a list in memory. -/
def OwnHs (base : Nat) (l : List Alr) (w : World) (e : Ending) (w' : World) : Prop := ∃ (L : List Ia) (P : Option Addr) (pc : Nat), e = .returned (.slice P L.length pc) ∧ L.map (·.a) = l ∧ AsIn w' base L P pc ∧ Below base w w'
theorem History_ (S : Nat → Prop) (b : Nat) (ks : List (Int × Int)) (q : Int) (ns : List Ntc) (ev : ByteArray) (w : World) (l : List Alr) (hl : hist ns ev.data.toList = l) (hc : Chn l) (h : Bd w S b ks q ns) :
    Calls Tryd.prog 31 #[.pointer (some ⟨b, 0, none⟩), .string ev] w (OwnHs w.heap.size l w) := by
  obtain ⟨R, K, kc, L, N, nc, mb, G, h1, rfl, _⟩ := h
  subst hl
  refine (history_ R b ks q K kc L N nc mb G ev w h1).mono ?_
  rintro e w' ⟨M, P, pc, hM, rfl, hrow, hits, hb⟩
  exact ⟨M, P, pc, rfl, hM, ⟨hrow, hits, fun x hx => hc.ok _ (by rw [← hM]; exact List.mem_map.2 ⟨x, hx, rfl⟩)⟩, hb⟩
/-- Posting to a board between other lists in memory. -/
theorem PostS (S : Nat → Prop) (lo b : Nat) (ks : List (Int × Int)) (q : Int) (ns : List Ntc) (n : Ntc) (A : Option Addr) (c : Nat) (Z : Option Addr) (zc : Nat) (v : Int) (ns' : List Ntc) (w : World) (hv : postE ks q ns n = v) (hn' : postN ks q ns n = ns') (hS : ∀ i, S i → lo ≤ i)
    (h : Bd w S b ks q ns) (hn : NIn w n A c Z zc) (ht : Rdy w) (hna : SlR w (fun i => ¬ lo ≤ i) 1 A n.a.cells.length c (ints n.a.cells)) :
    Calls Tryd.prog 32 #[.pointer (some ⟨b, 0, none⟩), n.val A c Z zc] w fun e w' => e = .returned (.int .i64 v) ∧ Bd w' (fun i => (S i ∨ w.heap.size ≤ i) ∧ i < w'.heap.size) b ks q ns' ∧ Kp S w w' := by
  refine (Post_ S b ks q ns n A c Z zc w h hn ht (hna.mono (fun i hi f => hi (hS i f)))).mono fun e w' hp => ?_
  obtain ⟨h1, h2, h3⟩ := hp
  rw [hv] at h1
  rw [hn'] at h2
  exact ⟨h1, h2.cut, h3⟩
theorem slr_lo {w w' : World} {B lo sz n c : Nat} {A : Option Addr} {xs : List Value} (h : Sl w B sz A n c xs) (hk : Sl w' w'.heap.size sz A n c xs) (hB : B ≤ lo) : SlR w' (fun i => ¬ lo ≤ i) sz A n c xs := slr_lt h hk hB
theorem force_none {ns : List Ntc} {s : List UInt8} (h : hist ns s = []) : forceR ns s = (Al.zero, 4) := by
  unfold forceR
  rw [lastOf_hist, h]
  rfl
theorem force_wd {ns : List Ntc} {s : List UInt8} {l : List Alr} {k : Nat} (h : hist ns s = l) (hl : l.length = k + 1) (hk : k < l.length) (hw : l[k].wd = true) : forceR ns s = (Al.zero, 107) := by
  have hne : l ≠ [] := by intro e; rw [e] at hl; cases hl
  unfold forceR
  rw [lastOf_hist, h, List.getLast?_eq_some_getLast hne, List.getLast_eq_getElem]
  have e : l.length - 1 = k := by omega
  simp [e, hw]
theorem force_ok {ns : List Ntc} {s : List UInt8} {l : List Alr} {k : Nat} (h : hist ns s = l) (hl : l.length = k + 1) (hk : k < l.length) (hw : l[k].wd = false) : forceR ns s = (l[k], 0) := by
  have hne : l ≠ [] := by intro e; rw [e] at hl; cases hl
  unfold forceR
  rw [lastOf_hist, h, List.getLast?_eq_some_getLast hne, List.getLast_eq_getElem]
  have e : l.length - 1 = k := by omega
  simp [e, hw]
end Go.Proofs.YtohfofecbdfkgaaDoor
