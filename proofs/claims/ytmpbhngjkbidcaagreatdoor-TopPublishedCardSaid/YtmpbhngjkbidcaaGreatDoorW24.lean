/-
  The walk of sameAlerts, of lists that are equal.
-/
import Derived.Test.YtmpbhngjkbidcaaGreatDoorW22
import Derived.Test.YtmpbhngjkbidcaaGreatDoorW23
import Derived.Test.YtmpbhngjkbidcaaGreatDoorW21
import Derived.Test.YtmpbhngjkbidcaaGreatDoorW19
import Derived.Deep.RegionHeld3
import Derived.Deep.DrawnRows
namespace Go.Proofs.YtmpbhngjkbidcaaGreatDoor
open Go.RowKit Al

def SaRel (n : Nat) (w : World) (i : Value) (wr : World) : Prop := ∃ k : Nat, k ≤ n ∧ i = .int .i64 k ∧ Below w.heap.size w wr
end Go.Proofs.YtmpbhngjkbidcaaGreatDoor

/-
  The walk of Force, of the program.
-/
namespace Go.Proofs.YtmpbhngjkbidcaaGreatDoor
open Go.RowKit Al
attribute [local go_sem ↓] Go.wp_at_zero Go.wp_at_succ

/-- What Force returns. -/
def forceR (ns : List Ntc) (s : List UInt8) : Alr × Int := match lastOf ns s with
  | none => (Al.zero, 4)
  | some x => if x.wd then (Al.zero, 107) else (x, 0)
theorem zero4 (w W : World) {k : Int} (h : Below w.heap.size w W) : OwnT w.heap.size Al.zero k w (.returned (.tuple #[Al.zero.val none 0, .int .i64 k])) W := ⟨none, 0, rfl, zero_row _ _, h⟩

set_option maxRecDepth 100000 in
set_option maxHeartbeats 4000000 in
theorem force_n (b mb : Nat) (ev : ByteArray) (w : World) (c3 : w.cell? ⟨b, 3, none⟩ = some (.map (some mb))) (hlt : b < w.heap.size)
    (hlk : ∀ W, Below w.heap.size w W → (Instr.lookup 102 (.map (some mb)) (.string ev) true).run Tryz.prog W = .ok (.tuple #[(Al.zero).val none 0, .bool false]) W) :
    Calls Tryz.prog 16 #[.pointer (some ⟨b, 0, none⟩), .string ev] w (OwnT w.heap.size Al.zero 4 w) := by
  have HL := Lib.hid hlk
  have hlt2 : b < w.heap.size + 1 := by omega
  have hl1 : (Instr.lookup 102 (.map (some mb)) (.string ev) true).run Tryz.prog (w.alloc (.cells #[.string ⟨#[]⟩, .int .i64 0, .int .i64 0, .int .i64 0, .int .i64 0, .int .i64 0, .slice none 0 0, .bool false, .int .i64 0] 55)) = .ok (.tuple #[(Al.zero).val none 0, .bool false]) (w.alloc (.cells #[.string ⟨#[]⟩, .int .i64 0, .int .i64 0, .int .i64 0, .int .i64 0, .int .i64 0, .slice none 0 0, .bool false, .int .i64 0] 55)) := hlk _ (by (repeat (first | exact Below.refl _ _ | assumption | refine below_drewN ?_ _ | refine Below.drew ?_ | refine Below.setCell ?_ (by first | omega | (simp; done) | (simp; omega)) _ | refine Below.alloc ?_ (by first | omega | (simp; done) | (simp; omega)) _)))
  clear hlk
  have hz4 : w.heap.size < w.heap.size + 1 := by omega
  have hz5 : w.heap.size < w.heap.size + 1 + 1 := by omega
  have hz6 : w.heap.size + 1 < w.heap.size + 1 + 1 := by omega
  go_enter Tryz.func16, Tryz.ntmps16
  go_wp2_with (go_at_call 44; refine (none_ b mb _ (by simp [go_sem, hlt, c3])).mono ?_; rintro e w' ⟨rfl, rfl⟩)
  exact bodyPost_ret (v := .tuple #[Al.zero.val none 0, .int .i64 4]) (by simp [results, Tryz.results16, go_sem, Al.zero]) rfl (zero4 _ _ (by (repeat (first | exact Below.refl _ _ | assumption | refine below_drewN ?_ _ | refine Below.drew ?_ | refine Below.setCell ?_ (by first | omega | (simp; done) | (simp; omega)) _ | refine Below.alloc ?_ (by first | omega | (simp; done) | (simp; omega)) _))))

set_option maxRecDepth 100000 in
set_option maxHeartbeats 4000000 in
theorem force_w (b mb : Nat) (ev : ByteArray) (x : Alr) (XA : Option Addr) (xc : Nat) (w : World) (c3 : w.cell? ⟨b, 3, none⟩ = some (.map (some mb))) (hlt : b < w.heap.size)
    (hlk : ∀ W, Below w.heap.size w W → (Instr.lookup 102 (.map (some mb)) (.string ev) true).run Tryz.prog W = .ok (.tuple #[(x).val XA xc, .bool true]) W) (hw : x.wd = true) :
    Calls Tryz.prog 16 #[.pointer (some ⟨b, 0, none⟩), .string ev] w (OwnT w.heap.size Al.zero 107 w) := by
  have HL := Lib.hid hlk
  have hlt2 : b < w.heap.size + 1 := by omega
  have hl1 : (Instr.lookup 102 (.map (some mb)) (.string ev) true).run Tryz.prog (w.alloc (.cells #[.string ⟨#[]⟩, .int .i64 0, .int .i64 0, .int .i64 0, .int .i64 0, .int .i64 0, .slice none 0 0, .bool false, .int .i64 0] 55)) = .ok (.tuple #[(x).val XA xc, .bool true]) (w.alloc (.cells #[.string ⟨#[]⟩, .int .i64 0, .int .i64 0, .int .i64 0, .int .i64 0, .int .i64 0, .slice none 0 0, .bool false, .int .i64 0] 55)) := hlk _ (by (repeat (first | exact Below.refl _ _ | assumption | refine below_drewN ?_ _ | refine Below.drew ?_ | refine Below.setCell ?_ (by first | omega | (simp; done) | (simp; omega)) _ | refine Below.alloc ?_ (by first | omega | (simp; done) | (simp; omega)) _)))
  clear hlk
  have hz4 : w.heap.size < w.heap.size + 1 := by omega
  have hz5 : w.heap.size < w.heap.size + 1 + 1 := by omega
  have hz6 : w.heap.size + 1 < w.heap.size + 1 + 1 := by omega
  go_enter Tryz.func16, Tryz.ntmps16
  go_wp2_with (go_at_call 44; refine (none_ b mb _ (by simp [go_sem, hlt, c3])).mono ?_; rintro e w' ⟨rfl, rfl⟩)
  exact bodyPost_ret (v := .tuple #[Al.zero.val none 0, .int .i64 107]) (by simp [results, Tryz.results16, go_sem, Al.zero]) rfl (zero4 _ _ (by (repeat (first | exact Below.refl _ _ | assumption | refine below_drewN ?_ _ | refine Below.drew ?_ | refine Below.setCell ?_ (by first | omega | (simp; done) | (simp; omega)) _ | refine Below.alloc ?_ (by first | omega | (simp; done) | (simp; omega)) _))))

set_option maxRecDepth 100000 in
set_option maxHeartbeats 4000000 in
theorem force_y (b mb : Nat) (ev : ByteArray) (x : Alr) (XA : Option Addr) (xc : Nat) (w : World) (c3 : w.cell? ⟨b, 3, none⟩ = some (.map (some mb))) (hlt : b < w.heap.size)
    (hlk : ∀ W, Below w.heap.size w W → (Instr.lookup 102 (.map (some mb)) (.string ev) true).run Tryz.prog W = .ok (.tuple #[(x).val XA xc, .bool true]) W) (hw : x.wd = false) (hin : AIn w x XA xc) (hb8 : x.cells.length * 8 ≤ 140737488355328) :
    Calls Tryz.prog 16 #[.pointer (some ⟨b, 0, none⟩), .string ev] w (OwnT w.heap.size x 0 w) := by
  obtain ⟨xe, xv, xt, xn, xo, xg, xcs, xw, xb⟩ := x
  have hw' : xw = false := hw
  clear hw
  subst hw'
  have HL := Lib.hid hlk
  have hlt2 : b < w.heap.size + 1 := by omega
  have hl1 : (Instr.lookup 102 (.map (some mb)) (.string ev) true).run Tryz.prog (w.alloc (.cells #[.string ⟨#[]⟩, .int .i64 0, .int .i64 0, .int .i64 0, .int .i64 0, .int .i64 0, .slice none 0 0, .bool false, .int .i64 0] 55)) = .ok (.tuple #[((⟨xe, xv, xt, xn, xo, xg, xcs, false, xb⟩ : Alr)).val XA xc, .bool true]) (w.alloc (.cells #[.string ⟨#[]⟩, .int .i64 0, .int .i64 0, .int .i64 0, .int .i64 0, .int .i64 0, .slice none 0 0, .bool false, .int .i64 0] 55)) := hlk _ (by (repeat (first | exact Below.refl _ _ | assumption | refine below_drewN ?_ _ | refine Below.drew ?_ | refine Below.setCell ?_ (by first | omega | (simp; done) | (simp; omega)) _ | refine Below.alloc ?_ (by first | omega | (simp; done) | (simp; omega)) _)))
  clear hlk
  have hz4 : w.heap.size < w.heap.size + 1 := by omega
  have hz5 : w.heap.size < w.heap.size + 1 + 1 := by omega
  have hz6 : w.heap.size + 1 < w.heap.size + 1 + 1 := by omega
  go_enter Tryz.func16, Tryz.ntmps16
  go_wp2_with (go_at_call 44; refine (none_ b mb _ (by simp [go_sem, hlt, c3])).mono ?_; rintro e w' ⟨rfl, rfl⟩)
  refine (copied_ (⟨xe, xv, xt, xn, xo, xg, xcs, false, xb⟩ : Alr) XA xc _ (hin.below (by (repeat (first | exact Below.refl _ _ | assumption | refine below_drewN ?_ _ | refine Below.drew ?_ | refine Below.setCell ?_ (by first | omega | (simp; done) | (simp; omega)) _ | refine Below.alloc ?_ (by first | omega | (simp; done) | (simp; omega)) _)))) hb8).mono ?_
  rintro e w2 ⟨A', c', rfl, hown, hbw⟩
  obtain ⟨hcw2, hfw2⟩ := bcell hbw
  have HB := Lib.hid ((show Below w.heap.size w _ from by (repeat (first | exact Below.refl _ _ | assumption | refine below_drewN ?_ _ | refine Below.drew ?_ | refine Below.setCell ?_ (by first | omega | (simp; done) | (simp; omega)) _ | refine Below.alloc ?_ (by first | omega | (simp; done) | (simp; omega)) _))).trans (hbw.mono (by first | omega | (simp; done) | (simp; omega))))
  have HO := Lib.hid hown
  have hz2 := hbw.size
  simp at hz2
  clear hbw hown
  have hz7 : w.heap.size < w2.heap.size := by omega
  go_wp2_with fail
  refine finCells (w := w2) (w.heap.size) ((⟨xe, xv, xt, xn, xo, xg, xcs, false, xb⟩ : Alr).lst A' c') (.tuple #[(⟨xe, xv, xt, xn, xo, xg, xcs, false, xb⟩ : Alr).val A' c', .int .i64 0]) rfl ?_ ?_ (show OwnT w.heap.size (⟨xe, xv, xt, xn, xo, xg, xcs, false, xb⟩ : Alr) 0 w _ _ from ⟨A', c', rfl, ?_, ?_⟩)
  · intro W hW
    have r0 := hW 0 (by simp)
    have r1 := hW 1 (by simp)
    have r2 := hW 2 (by simp)
    have r3 := hW 3 (by simp)
    have r4 := hW 4 (by simp)
    have r5 := hW 5 (by simp)
    have r6 := hW 6 (by simp)
    have r7 := hW 7 (by simp)
    have r8 := hW 8 (by simp)
    clear hW
    simp only [List.getElem_cons_zero, List.getElem_cons_succ] at r0 r1 r2 r3 r4 r5 r6 r7 r8
    simp [results, Tryz.results16, go_sem, r0, r1, r2, r3, r4, r5, r6, r7, r8]
  · refine lt9 ?_
    simp [go_sem, hcw2]
  · refine own_more (base := w.heap.size + 1 + 1) (own_setCells ?_ _ _ _ ?_) ?_
    · omega
    · have := HO.out
      simp at this
      exact this
    · omega
  · exact below_setCells (by omega) _ _ _ _ HB.out

theorem Force_ (S : Nat → Prop) (b : Nat) (ks : List (Int × Int)) (q : Int) (ns : List Ntc) (ev : ByteArray) (w : World) (x : Alr) (k : Int) (hv : forceR ns ev.data.toList = (x, k)) (hs : ev.size ≤ maxLen) (h : Bd w S b ks q ns) :
    Calls Tryz.prog 16 #[.pointer (some ⟨b, 0, none⟩), .string ev] w (OwnT w.heap.size x k w) := by
  obtain ⟨R, K, kc, L, N, nc, mb, G, h, rfl, _⟩ := h
  have hl : ∀ W, Below w.heap.size w W → _ := fun W hb => (h.map.keep (F := fun _ => False) (Kp.of_below hb) (fun f => f)).look hs
  have hg := h.gl ev.data.toList
  unfold forceR at hv
  rw [← hg] at hv
  cases hG : G ev.data.toList with
  | none =>
    rw [hG] at hv
    cases hv
    refine force_n b mb ev w h.c3 h.lt.1 fun W hb => ?_
    have := hl W hb
    rw [hG] at this
    exact this
  | some y =>
    obtain ⟨y, YA, yc⟩ := y
    have hy := h.gs _ _ hG
    rw [hG] at hv
    have hv' : (if y.wd then (Al.zero, 107) else (y, 0)) = (x, k) := hv
    have hl' : ∀ W, Below w.heap.size w W → (Instr.lookup 102 (.map (some mb)) (.string ev) true).run Tryz.prog W = .ok (.tuple #[y.val YA yc, .bool true]) W := fun W hb => by
      have := hl W hb
      rw [hG] at this
      exact this
    cases hw : y.wd with
    | true =>
      rw [hw] at hv'
      cases hv'
      exact force_w b mb ev y YA yc w h.c3 h.lt.1 hl' hw
    | false =>
      rw [hw] at hv'
      cases hv'
      exact force_y b mb ev _ YA yc w h.c3 h.lt.1 hl' hw ⟨okA_ev hy.1, hy.2.sl⟩ (okA_short hy.1)
set_option maxRecDepth 100000 in
theorem force_zero (b : Nat) (ev : ByteArray) (w : World) (c3 : w.cell? ⟨b, 3, none⟩ = some (.map none)) (hlt : b < w.heap.size) :
    Calls Tryz.prog 16 #[.pointer (some ⟨b, 0, none⟩), .string ev] w (OwnT w.heap.size Al.zero 1 w) := by
  go_enter Tryz.func16, Tryz.ntmps16
  go_wp2_with (go_at_call 44; refine (none_zero b _ (by simp [go_sem, hlt, c3])).mono ?_; rintro e w' ⟨rfl, rfl⟩)
  exact bodyPost_ret (v := .tuple #[Al.zero.val none 0, .int .i64 1]) (by simp [results, Tryz.results16, go_sem, Al.zero]) rfl (zero4 _ _ (by (repeat (first | exact Below.refl _ _ | assumption | refine below_drewN ?_ _ | refine Below.drew ?_ | refine Below.setCell ?_ (by first | omega | (simp; done) | (simp; omega)) _ | refine Below.alloc ?_ (by first | omega | (simp; done) | (simp; omega)) _))))
end Go.Proofs.YtmpbhngjkbidcaaGreatDoor

/-
  Lists of alerts in memory, boards between calls: what the laws on boards carry.
-/
namespace Go.Proofs.YtmpbhngjkbidcaaGreatDoor
open Go.RowKit Al

/-- A list of alerts that lies in blocks from lo on. -/
structure AsIn (w : World) (lo : Nat) (L : List Ia) (P : Option Addr) (pc : Nat) : Prop where
  row : w.ownsRow lo 55 9 (.slice P L.length pc) L.length (iaCells L)
  its : ∀ x ∈ L, SlR w (fun i => lo ≤ i) 1 x.A x.a.cells.length x.c (ints x.a.cells)
  ok : ∀ x ∈ L, okA x.a = true
theorem AsIn.keep {w w' : World} {lo : Nat} {L : List Ia} {P : Option Addr} {pc : Nat} {F : Nat → Prop} (h : AsIn w lo L P pc) (k : Kp F w w') (hF : ∀ i, lo ≤ i → ¬ F i) : AsIn w' lo L P pc :=
  ⟨own_keep h.row k (fun g hg f => hF g (own_lt h.row hg).1 f), fun x hx => (h.its x hx).keep k hF, h.ok⟩
theorem AsIn.below {w w' : World} {lo : Nat} {L : List Ia} {P : Option Addr} {pc : Nat} (h : AsIn w lo L P pc) (hb : Below w.heap.size w w') : AsIn w' lo L P pc := h.keep (F := fun _ => False) (Kp.of_below hb) (fun _ _ f => f)
theorem AsIn.sl {w : World} {lo : Nat} {L : List Ia} {P : Option Addr} {pc : Nat} (h : AsIn w lo L P pc) : Sl w w.heap.size 9 P L.length pc (iaCells L) := Sl.of_own h.row
theorem AsIn.al {w : World} {lo : Nat} {L : List Ia} {P : Option Addr} {pc : Nat} (h : AsIn w lo L P pc) {x : Ia} (hx : x ∈ L) : AIn w x.a x.A x.c := ⟨okA_ev (h.ok x hx), (h.its x hx).sl⟩
theorem AsIn.cap {w : World} {lo : Nat} {L : List Ia} {P : Option Addr} {pc : Nat} (h : AsIn w lo L P pc) : L.length ≤ pc := h.sl.cap
theorem AsIn.slTake {w : World} {lo : Nat} {L : List Ia} {P : Option Addr} {pc : Nat} (h : AsIn w lo L P pc) (m : Nat) (hm : m ≤ L.length) : Sl w w.heap.size 9 P (L.take m).length pc (iaCells (L.take m)) := by
  rw [iaCells_take, List.length_take, Nat.min_eq_left hm]
  exact h.sl.cut hm
theorem hist_few (ns : List Ntc) (s : List UInt8) : (hist ns s).length ≤ ns.length := by
  unfold hist
  exact Nat.le_trans (List.length_filter_le _ _) (by simp)
theorem Bd.few {w : World} {S : Nat → Prop} {b : Nat} {ks : List (Int × Int)} {q : Int} {ns : List Ntc} (h : Bd w S b ks q ns) : ns.length ≤ 256 := by
  obtain ⟨R, K, kc, L, N, nc, mb, G, h1, rfl, _⟩ := h
  rw [List.length_map]
  exact h1.max
theorem Bd.lt {w : World} {S : Nat → Prop} {b : Nat} {ks : List (Int × Int)} {q : Int} {ns : List Ntc} (h : Bd w S b ks q ns) : b < w.heap.size := by
  obtain ⟨R, K, kc, L, N, nc, mb, G, h1, rfl, _⟩ := h
  exact h1.lt.1
/-- The blocks of a board lie in the world. -/
theorem Bd.cut {w : World} {S : Nat → Prop} {b : Nat} {ks : List (Int × Int)} {q : Int} {ns : List Ntc} (h : Bd w S b ks q ns) : Bd w (fun i => S i ∧ i < w.heap.size) b ks q ns := by
  obtain ⟨R, K, kc, L, N, nc, mb, G, h1, h2, h3⟩ := h
  refine ⟨R, K, kc, L, N, nc, mb, G, h1, h2, fun i hi => ⟨h3 i hi, ?_⟩⟩
  rcases hi with hi | rfl | rfl | ⟨a, ha, rfl⟩
  · exact h1.rl i hi
  · exact h1.lt.1
  · exact h1.lt.2
  · exact (own_lt h1.row (g := a.block) (by rw [ha]; rfl)).2
theorem Bd.below {w w' : World} {S : Nat → Prop} {b : Nat} {ks : List (Int × Int)} {q : Int} {ns : List Ntc} (h : Bd w S b ks q ns) (hb : Below w.heap.size w w') : Bd w' S b ks q ns := h.keep (F := fun _ => False) (Kp.of_below hb) (fun _ _ f => f)

/-- Alerts handed back, as a list in memory. -/
def OwnHs (base : Nat) (l : List Alr) (w : World) (e : Ending) (w' : World) : Prop := ∃ (L : List Ia) (P : Option Addr) (pc : Nat), e = .returned (.slice P L.length pc) ∧ L.map (·.a) = l ∧ AsIn w' base L P pc ∧ Below base w w'
theorem History_ (S : Nat → Prop) (b : Nat) (ks : List (Int × Int)) (q : Int) (ns : List Ntc) (ev : ByteArray) (w : World) (l : List Alr) (hl : hist ns ev.data.toList = l) (hc : Chn l) (h : Bd w S b ks q ns) :
    Calls Tryz.prog 47 #[.pointer (some ⟨b, 0, none⟩), .string ev] w (OwnHs w.heap.size l w) := by
  obtain ⟨R, K, kc, L, N, nc, mb, G, h1, rfl, _⟩ := h
  subst hl
  refine (history_ R b ks q K kc L N nc mb G ev w h1).mono ?_
  rintro e w' ⟨M, P, pc, hM, rfl, hrow, hits, hb⟩
  exact ⟨M, P, pc, rfl, hM, ⟨hrow, hits, fun x hx => hc.ok _ (by rw [← hM]; exact List.mem_map.2 ⟨x, hx, rfl⟩)⟩, hb⟩
/-- Posting to a board between other lists in memory. -/
theorem PostS (S : Nat → Prop) (lo b : Nat) (ks : List (Int × Int)) (q : Int) (ns : List Ntc) (n : Ntc) (A : Option Addr) (c : Nat) (Z : Option Addr) (zc : Nat) (v : Int) (ns' : List Ntc) (w : World) (hv : postE ks q ns n = v) (hn' : postN ks q ns n = ns') (hS : ∀ i, S i → lo ≤ i)
    (h : Bd w S b ks q ns) (hn : NIn w n A c Z zc) (ht : Rdy w) (hna : SlR w (fun i => ¬ lo ≤ i) 1 A n.a.cells.length c (ints n.a.cells)) :
    Calls Tryz.prog 21 #[.pointer (some ⟨b, 0, none⟩), n.val A c Z zc] w fun e w' => e = .returned (.int .i64 v) ∧ Bd w' (fun i => (S i ∨ w.heap.size ≤ i) ∧ i < w'.heap.size) b ks q ns' ∧ Kp S w w' := by
  refine (Post_ S b ks q ns n A c Z zc w h hn ht (hna.mono (fun i hi f => hi (hS i f)))).mono fun e w' hp => ?_
  obtain ⟨h1, h2, h3⟩ := hp
  rw [hv] at h1
  rw [hn'] at h2
  exact ⟨h1, h2.cut, h3⟩
theorem slr_lo {w w' : World} {B lo sz n c : Nat} {A : Option Addr} {xs : List Value} (h : Sl w B sz A n c xs) (hk : Sl w' w'.heap.size sz A n c xs) (hB : B ≤ lo) : SlR w' (fun i => ¬ lo ≤ i) sz A n c xs := slr_lt h hk hB
theorem force_none {ns : List Ntc} {s : List UInt8} (h : hist ns s = []) : forceR ns s = (Al.zero, 4) := by
  unfold forceR
  rw [lastOf_hist, h]
  rfl
theorem force_wd {ns : List Ntc} {s : List UInt8} {l : List Alr} {k : Nat} (h : hist ns s = l) (hl : l.length = k + 1) (hk : k < l.length) (hw : l[k].wd = true) : forceR ns s = (Al.zero, 107) := by
  have hne : l ≠ [] := by intro e; rw [e] at hl; cases hl
  unfold forceR
  rw [lastOf_hist, h, List.getLast?_eq_some_getLast hne, List.getLast_eq_getElem]
  have e : l.length - 1 = k := by omega
  simp [e, hw]
theorem force_ok {ns : List Ntc} {s : List UInt8} {l : List Alr} {k : Nat} (h : hist ns s = l) (hl : l.length = k + 1) (hk : k < l.length) (hw : l[k].wd = false) : forceR ns s = (l[k], 0) := by
  have hne : l ≠ [] := by intro e; rw [e] at hl; cases hl
  unfold forceR
  rw [lastOf_hist, h, List.getLast?_eq_some_getLast hne, List.getLast_eq_getElem]
  have e : l.length - 1 = k := by omega
  simp [e, hw]
end Go.Proofs.YtmpbhngjkbidcaaGreatDoor

/-
  The walks of Draft, on both sides, and of valid, next, Follow and Withdraw, of the specification.
-/
namespace Go.Proofs.YtmpbhngjkbidcaaGreatDoor
open Go.RowKit Al
attribute [local go_sem ↓] Go.wp_at_zero Go.wp_at_succ

set_option maxRecDepth 100000 in
set_option maxHeartbeats 1000000 in
theorem Draft_e (ev : ByteArray) (t pa pb pl cn co lim g : Int) (n : Nat) (D : Option Addr) (dc : Nat) (w : World) (h : lim < cn) :
    Calls Tryz.prog 11 #[.string ev, .int .i64 t, .agg #[.int .i64 pa, .int .i64 pb, .int .i64 pl, .int .i64 cn, .int .i64 co], .int .i64 lim, .int .i64 g, .slice D n dc] w (OwnT w.heap.size Al.zero 4 w) := by
  have t1 : decide (lim < cn) = true := decide_eq_true h
  clear h
  go_enter Tryz.func11, Tryz.ntmps11
  go_wp2_with fail
  exact bodyPost_ret (v := .tuple #[Al.zero.val none 0, .int .i64 4]) (by simp [results, Tryz.results11, go_sem, Al.zero]) rfl ⟨none, 0, rfl, zero_row _ _, (by repeat (first | exact Below.refl _ _ | assumption | refine below_drewN ?_ _ | refine Below.drew ?_ | refine Below.setCell ?_ (by first | omega | (simp; done) | (simp; omega)) _ | refine Below.alloc ?_ (by first | omega | (simp; done) | (simp; omega)) _))⟩
set_option maxRecDepth 100000 in
set_option maxHeartbeats 1000000 in
theorem Draft_n (ev : ByteArray) (t pa pb pl cn co lim g : Int) (l : List Int) (D : Option Addr) (dc : Nat) (x : Alr) (k : Int) (w : World) (h : ¬ lim < cn) (hd : DraftSays ⟨ev, 1, t, cn, co, g, l, false, 0⟩ D dc x k w) :
    Calls Tryz.prog 11 #[.string ev, .int .i64 t, .agg #[.int .i64 pa, .int .i64 pb, .int .i64 pl, .int .i64 cn, .int .i64 co], .int .i64 lim, .int .i64 g, .slice D l.length dc] w (OwnT w.heap.size x k w) := by
  have t1 : decide (lim < cn) = false := decide_eq_false h
  clear h
  go_enter Tryz.func11, Tryz.ntmps11
  go_wp2_with fail
  refine (hd _ (by repeat (first | exact Below.refl _ _ | assumption | refine below_drewN ?_ _ | refine Below.drew ?_ | refine Below.setCell ?_ (by first | omega | (simp; done) | (simp; omega)) _ | refine Below.alloc ?_ (by first | omega | (simp; done) | (simp; omega)) _))).mono ?_
  rintro e w2 ⟨A', c', rfl, hown, hbw⟩
  obtain ⟨hcw2, hfw2⟩ := bcell hbw
  have HB := Lib.hid ((show Below w.heap.size w _ from (by repeat (first | exact Below.refl _ _ | assumption | refine below_drewN ?_ _ | refine Below.drew ?_ | refine Below.setCell ?_ (by first | omega | (simp; done) | (simp; omega)) _ | refine Below.alloc ?_ (by first | omega | (simp; done) | (simp; omega)) _))).trans (hbw.mono (by first | omega | (simp; done) | (simp; omega))))
  have HO := Lib.hid hown
  have hz2 := hbw.size
  simp at hz2
  clear hbw hown
  have hz5 : w.heap.size + 1 < w2.heap.size := by omega
  go_wp2_with fail
  refine finCells (w := w2) (w.heap.size + 1) (x.lst A' c') (.tuple #[x.val A' c', .int .i64 k]) rfl ?_ ?_ (show OwnT w.heap.size x k w _ _ from ⟨A', c', rfl, ?_, ?_⟩)
  · intro W hW
    have r0 := hW 0 (by simp)
    have r1 := hW 1 (by simp)
    have r2 := hW 2 (by simp)
    have r3 := hW 3 (by simp)
    have r4 := hW 4 (by simp)
    have r5 := hW 5 (by simp)
    have r6 := hW 6 (by simp)
    have r7 := hW 7 (by simp)
    have r8 := hW 8 (by simp)
    clear hW
    simp only [List.getElem_cons_zero, List.getElem_cons_succ] at r0 r1 r2 r3 r4 r5 r6 r7 r8
    simp [results, Tryz.results11, go_sem, r0, r1, r2, r3, r4, r5, r6, r7, r8]
  · refine lt9 ?_
    have hz6 : w.heap.size + 1 < w.heap.size + 1 + 1 := by omega
    simp [go_sem, hcw2, hz6]
  · refine own_more (base := w.heap.size + 1 + 1) (own_setCells ?_ _ _ _ ?_) ?_
    · omega
    · have := HO.out
      simp at this
      exact this
    · omega
  · exact below_setCells (by omega) _ _ _ _ HB.out

end Go.Proofs.YtmpbhngjkbidcaaGreatDoor

/-
  What Draft, Follow and Withdraw return, in one word for both sides.
-/
namespace Go.Proofs.YtmpbhngjkbidcaaGreatDoor
open Go.RowKit Al

theorem zero_ev : Al.zero.ev.size ≤ maxLen := by decide
/-- What Draft makes. -/
def newD (ev : ByteArray) (t cn co g : Int) (l : List Int) : Alr := ⟨ev, 1, t, cn, co, g, l, false, 0⟩
def draftR (ev : ByteArray) (t cn co lim g : Int) (l : List Int) : Alr × Int := if lim < cn then (Al.zero, 4) else (draftA (newD ev t cn co g l), errA (okA (newD ev t cn co g l)) 101)
/-- What Follow makes. -/
def folD (a : Alr) (t cn co g : Int) (l : List Int) : Alr := ⟨a.ev, a.ver + 1, t, cn, co, g, l, false, digA a⟩
def folR (a : Alr) (t cn co g : Int) (l : List Int) : Alr × Int := if nextE a t = 0 then (draftA (folD a t cn co g l), errA (okA (folD a t cn co g l)) 101) else (Al.zero, nextE a t)
/-- What Withdraw makes. -/
def witD (a : Alr) (t : Int) : Alr := ⟨a.ev, a.ver + 1, t, a.n, a.of, a.grid, [], true, digA a⟩
def witR (a : Alr) (t : Int) : Alr × Int := if nextE a t = 0 then (draftA (witD a t), errA (okA (witD a t)) 101) else (Al.zero, nextE a t)
theorem draftA_ev {a : Alr} (h : a.ev.size ≤ maxLen) : (draftA a).ev.size ≤ maxLen := by
  unfold draftA
  split
  · exact h
  · exact zero_ev
theorem draftR_ev {ev : ByteArray} (t cn co lim g : Int) (l : List Int) (h : ev.size ≤ maxLen) : (draftR ev t cn co lim g l).1.ev.size ≤ maxLen := by
  unfold draftR
  split
  · exact zero_ev
  · exact draftA_ev h
theorem folR_ev {a : Alr} (t cn co g : Int) (l : List Int) (h : a.ev.size ≤ maxLen) : (folR a t cn co g l).1.ev.size ≤ maxLen := by
  unfold folR
  split
  · exact draftA_ev h
  · exact zero_ev
theorem witR_ev {a : Alr} (t : Int) (h : a.ev.size ≤ maxLen) : (witR a t).1.ev.size ≤ maxLen := by
  unfold witR
  split
  · exact draftA_ev h
  · exact zero_ev

theorem nextE_no {a : Alr} {t : Int} (h : nextE a t = 0) : okA a = true ∧ a.wd = false ∧ ¬ t < a.tm := by
  unfold nextE at h
  split at h
  · rename_i h1
    split at h
    · cases h
    · rename_i h2
      split at h
      · cases h
      · rename_i h3
        exact ⟨h1, by simpa using h2, h3⟩
  · cases h
theorem says_0 (a : Alr) (A : Option Addr) (c : Nat) (t : Int) (w : World) (h : AIn w a A c) (hr : Rdy w) (hn : nextE a t = 0) : NextSays a A c t ⟨a.ev, a.ver + 1, t, a.n, a.of, a.grid, [], false, digA a⟩ 0 w := by
  intro w' hb
  obtain ⟨hk, hw, ht⟩ := nextE_no hn
  obtain ⟨ev, ver, tm, n, of, grid, cells, wd, before⟩ := a
  cases hw
  exact next_d ev ver tm n of grid before _ cells A c t w' rfl hk (by show tm ≤ t; have : ¬ t < tm := ht; omega) (h.below hb) (hr.below hb)
theorem says_no (a : Alr) (A : Option Addr) (c : Nat) (t : Int) (w : World) (h : AIn w a A c) (hn : ¬ nextE a t = 0) : NextSays a A c t Al.zero (nextE a t) w := by
  intro w' hb
  obtain ⟨ev, ver, tm, n, of, grid, cells, wd, before⟩ := a
  by_cases hk : okA ⟨ev, ver, tm, n, of, grid, cells, wd, before⟩ = true
  · cases wd with
    | true =>
      rw [nextE_107 hk rfl]
      exact next_107 ev ver tm n of grid before cells A c t w' hk (h.below hb)
    | false =>
      by_cases ht : t < tm
      · rw [nextE_108 hk rfl ht]
        exact next_108 ev ver tm n of grid before cells A c t w' hk ht (h.below hb)
      · exact absurd (nextE_0 hk rfl ht) hn
  · have hk' : okA ⟨ev, ver, tm, n, of, grid, cells, wd, before⟩ = false := by simpa using hk
    rw [nextE_101 hk']
    exact next_101 ev ver tm n of grid before cells wd A c t w' hk' (h.below hb)
theorem ne_beq {k : Int} (h : ¬ k = 0) : (k == 0) = false := by simpa using h

theorem Draft_is (ev : ByteArray) (t pa pb pl cn co lim g : Int) (l : List Int) (D : Option Addr) (dc : Nat) (x : Alr) (k : Int) (w : World) (hv : draftR ev t cn co lim g l = (x, k)) (hev : ev.size ≤ maxLen) (h : Sl w w.heap.size 1 D l.length dc (ints l)) :
    Calls Tryz.prog 11 #[.string ev, .int .i64 t, .agg #[.int .i64 pa, .int .i64 pb, .int .i64 pl, .int .i64 cn, .int .i64 co], .int .i64 lim, .int .i64 g, .slice D l.length dc] w (OwnT w.heap.size x k w) := by
  unfold draftR at hv
  by_cases hl : lim < cn
  · rw [if_pos hl] at hv
    cases hv
    exact Draft_e ev t pa pb pl cn co lim g l.length D dc w hl
  · rw [if_neg hl] at hv
    cases hv
    exact Draft_n ev t pa pb pl cn co lim g l D dc _ _ w hl (drafted_ (newD ev t cn co g l) D dc w ⟨hev, h⟩)
theorem Follow_is (a : Alr) (A : Option Addr) (c : Nat) (t cn co g : Int) (l : List Int) (D : Option Addr) (dc : Nat) (x : Alr) (k : Int) (w : World) (hv : folR a t cn co g l = (x, k)) (h : AIn w a A c) (hl : Sl w w.heap.size 1 D l.length dc (ints l)) (hr : Rdy w) :
    Calls Tryz.prog 13 #[a.val A c, .int .i64 t, .agg #[.int .i64 cn, .int .i64 co], .int .i64 g, .slice D l.length dc] w (OwnT w.heap.size x k w) := by
  unfold folR at hv
  by_cases hn : nextE a t = 0
  · rw [if_pos hn] at hv
    cases hv
    exact Follow_n a A c t cn co g l D dc _ _ _ _ _ _ _ _ _ w (says_0 a A c t w h hr hn) (drafted_ (folD a t cn co g l) D dc w ⟨h.ev, hl⟩)
  · rw [if_neg hn] at hv
    cases hv
    exact Follow_e a A c t cn co g D l.length dc _ w (ne_beq hn) (says_no a A c t w h hn)
theorem Withdraw_is (a : Alr) (A : Option Addr) (c : Nat) (t : Int) (x : Alr) (k : Int) (w : World) (hv : witR a t = (x, k)) (h : AIn w a A c) (hr : Rdy w) :
    Calls Tryz.prog 14 #[a.val A c, .int .i64 t] w (OwnT w.heap.size x k w) := by
  unfold witR at hv
  by_cases hn : nextE a t = 0
  · rw [if_pos hn] at hv
    cases hv
    exact Withdraw_n a A c t _ _ _ _ _ _ _ _ _ w (says_0 a A c t w h hr hn) (drafted_ (witD a t) none 0 w ⟨h.ev, Sl.nilS _ _ _⟩)
  · rw [if_neg hn] at hv
    cases hv
    exact Withdraw_e a A c t _ w (ne_beq hn) (says_no a A c t w h hn)
end Go.Proofs.YtmpbhngjkbidcaaGreatDoor
